/- One by one: seqm's small functions. -/
import Derived.Test.YtclabjihjopclaaF12
namespace Go.Proofs.Ytclabjihjopclaa.Ax
open Go.RowKit
set_option linter.unusedVariables false
set_option linter.unusedSimpArgs false
def rins (i : Ins) : RR := .agg ((row i).map .d)
def rdPI : List A → Prg × Int
  | [.agg l, .c (.int _ i)] => (Prg.of l, i)
  | _ => default
def aIns (i : Ins) : A := .agg (row i)
def aVal (r : Bool) (n : Int) : A := .agg [.bool r, .int .i64 n]
def c_sAt : FT (Prg × Int) := ⟨61, fun x => [ap x.1, ai x.2], rdPI, fun _ => True, fun x => rins (atS x.1.ins x.2), false, fun x => by simp [ap, ai, rdPI]⟩
noncomputable def a_sAt : FnA := (fnA Try.prog Try.f61 2 []).getD ⟨0, .skip, [], []⟩
def s_sAt : Sp := spT []
theorem s_sAt_sound : s_sAt.sound Try.prog := spT_sound fun e he => by cases he
set_option maxRecDepth 100000 in
theorem t_sAt (p : Prg) (i : Int) : a_sAt.start s_sAt 400 [ap p, ai i] =
(VC.br (decide (i < (0 : Int)))
 (VC.ret (some (RR.agg [Rc.d (D.int IntKind.i64 (12 : Int)), Rc.d (D.int IntKind.i64 (0 : Int)), Rc.d (D.int IntKind.i64 (0 : Int)), Rc.d (D.bool false), Rc.d (D.int IntKind.i64 (0 : Int)), Rc.d (D.bool false), Rc.d (D.int IntKind.i64 (0 : Int)), Rc.d (D.str { data := #[] }), Rc.d (D.int IntKind.i64 (0 : Int))])))
 (VC.br (decide ((↑(List.length (rowsOn p.ins)) : Int) ≤ i))
  (VC.ret (some (RR.agg [Rc.d (D.int IntKind.i64 (12 : Int)), Rc.d (D.int IntKind.i64 (0 : Int)), Rc.d (D.int IntKind.i64 (0 : Int)), Rc.d (D.bool false), Rc.d (D.int IntKind.i64 (0 : Int)), Rc.d (D.bool false), Rc.d (D.int IntKind.i64 (0 : Int)), Rc.d (D.str { data := #[] }), Rc.d (D.int IntKind.i64 (0 : Int))])))
  (VC.need ((0 : Int) ≤ i ∧ i < (↑(List.length (rowsOn p.ins)) : Int) ∧ List.length (rowAt (rowsOn p.ins) (Int.toNat i)) = (9 : Nat))
  (VC.need (okSh [Kd.int IntKind.i64, Kd.int IntKind.i64, Kd.int IntKind.i64, Kd.bool, Kd.int IntKind.i64, Kd.bool, Kd.int IntKind.i64, Kd.str, Kd.int IntKind.i64] (rowAt (rowsOn p.ins) (Int.toNat i)))
  (VC.ret (some (RR.agg [Rc.d (D.int IntKind.i64 (asInt (List.getD (rowAt (rowsOn p.ins) (Int.toNat i)) (0 : Nat) D.nilp))), Rc.d (D.int IntKind.i64 (asInt (List.getD (rowAt (rowsOn p.ins) (Int.toNat i)) (1 : Nat) D.nilp))), Rc.d (D.int IntKind.i64 (asInt (List.getD (rowAt (rowsOn p.ins) (Int.toNat i)) (2 : Nat) D.nilp))), Rc.d (D.bool (asBool (List.getD (rowAt (rowsOn p.ins) (Int.toNat i)) (3 : Nat) D.nilp))), Rc.d (D.int IntKind.i64 (asInt (List.getD (rowAt (rowsOn p.ins) (Int.toNat i)) (4 : Nat) D.nilp))), Rc.d (D.bool (asBool (List.getD (rowAt (rowsOn p.ins) (Int.toNat i)) (5 : Nat) D.nilp))), Rc.d (D.int IntKind.i64 (asInt (List.getD (rowAt (rowsOn p.ins) (Int.toNat i)) (6 : Nat) D.nilp))), Rc.d (D.str (asStr (List.getD (rowAt (rowsOn p.ins) (Int.toNat i)) (7 : Nat) D.nilp))), Rc.d (D.int IntKind.i64 (asInt (List.getD (rowAt (rowsOn p.ins) (Int.toNat i)) (8 : Nat) D.nilp)))]))))))) := by kernel_rfl
theorem c_sAt_good : c_sAt.fe.Good Try.prog := by
  refine FT.good c_sAt ⟨Try.f61, by kernel_rfl, by decide +kernel, by kernel_rfl⟩ (fun ⟨p, i⟩ => by first | rfl | simp [c_sAt, rrRef, rnum, rby, rss, rnewI, rnewE, rstab, rplaces, ri, rb, rib, rins, Sta.fresh]) fun ⟨p, i⟩ hp => ?_
  refine acalls_le s_sAt_sound (fn := Try.f61) (a := a_sAt) (nargs := 2) (tbl := []) (by kernel_rfl) (by kernel_rfl) rfl (m := 400) ?_
  show VC.holds _ _ _ (a_sAt.start s_sAt 400 [ap p, ai i])
  rw [t_sAt]
  try simp only [asRows_sl, asInt_int, asBool_bool, asStr_str, listOf_rowsOn, List.drop_zero, Prg.eta, Sta.eta, rowsOn_length, getD_drop, Nat.reduceAdd, rd_int, rd_PMem_name, rd_PMem_secret, rd_PMem_n, rd_PLabel_name, rd_PLabel_at_, rd_Ins_kind, rd_Ins_op, rd_Ins_d, rd_Ins_aR, rd_Ins_aN, rd_Ins_bR, rd_Ins_bN, rd_Ins_name, rd_Ins_target, rd_Ent_pc, rd_Ent_val, rd_Ent_addr, rd_Ent_fro, rd_Ent_next, rd_Ent_done, rd_Ent_known, rd_Ent_fault, rd_Place_reg, rd_Place_n, rd_Place_secret, rd_Obs_kind, rd_Obs_at_, rd_Dir_kind, rd_Dir_n, Prg.of_cells, Sta.of_cells]
  try simp only [c_sAt] at hp
  repeat' first
    | refine br_not ?_
    | refine br_dec (fun _ => ?_) (fun _ => ?_)
    | refine br_beq (fun _ => ?_) (fun _ => ?_)
    | refine br_bne (fun _ => ?_) (fun _ => ?_)
    | refine br_holds (fun _ => ?_) (fun _ => ?_)
    | refine ⟨PreOk.mk ?_ rfl, ?_⟩
    | refine ⟨idx_ok _ _ _ rfl (by omega) (by omega), ?_⟩
    | refine ⟨okSh_ok _ _ _ (fun _ => rfl) (by omega) (by omega), ?_⟩
    | refine ⟨okSh_okD _ _ _ _ (fun _ => rfl) (by omega) (by omega), ?_⟩
    | refine ⟨aload_ok _ _ rfl (fun _ => rfl) (by omega) (by omega), ?_⟩
    | refine ⟨aload_okD _ _ _ rfl (fun _ => rfl) (by omega) (by omega), ?_⟩
    | refine ⟨astore_ok (by assumption) rfl (by omega) (by omega) (by decide), ?_⟩
    | refine ⟨app_ok (by assumption) rfl rfl (by simp only [List.length_cons, List.length_nil]; omega), ?_⟩
    | refine need_holds ?_ fun _ => ?_
    | refine all_holds fun y hy => ?_
    | refine ret_le ?_
  all_goals refine RR.le_of_eq ?_
  · show _ = rins (atS p.ins i)
    unfold atS; rw [if_pos (.inl ‹_›)]; rfl
  · show _ = rins (atS p.ins i)
    unfold atS; rw [if_pos (.inr ‹_›)]; rfl
  · show _ = rins (atS p.ins i)
    unfold atS; rw [if_neg (by omega)]; rfl
noncomputable def v_sAt : Prg × Int → Ins := fun x => atS x.1.ins x.2
noncomputable def sh_sAt : Ins → RR := fun i => rins i
theorem e_sAt (x : Prg × Int) : sh_sAt (v_sAt x) = c_sAt.ans x := rfl
theorem reg_out (s : Sta) {i : Int} (h : i < 0 ∨ 4 ≤ i) : s.reg i = 0 := by
  unfold Sta.reg
  rw [if_neg (by omega), if_neg (by omega), if_neg (by omega), if_neg (by omega)]
theorem maskS_0 (w : Int) : maskS w 0 = 0 := by unfold maskS; split <;> simp
def rdPSI : List A → Prg × Sta × Int
  | [.agg l, .agg s, .c (.int _ i)] => (Prg.of l, Sta.of s, i)
  | _ => default
def c_sReg : FT (Prg × Sta × Int) := ⟨104, fun x => [ap x.1, as_ x.2.1, ai x.2.2], rdPSI, fun _ => True, fun x => ri (maskS x.1.w (x.2.1.reg x.2.2)), false, fun x => by simp [ap, as_, ai, rdPSI]⟩
noncomputable def a_sReg : FnA := (fnA Try.prog Try.f104 3 []).getD ⟨0, .skip, [], []⟩
def s_sReg : Sp := spT [c_wMask.fe]
theorem s_sReg_sound : s_sReg.sound Try.prog := spT_sound fun e he => by
  simp only [List.mem_cons, List.not_mem_nil, or_false] at he
  rcases he with rfl
  · exact c_wMask_good
set_option maxRecDepth 100000 in
theorem t_sReg (p : Prg) (s : Sta) (i : Int) : a_sReg.start s_sReg 400 [ap p, as_ s, ai i] =
(VC.br (decide (i < (0 : Int)))
 (VC.ret (some (RR.c (Rc.d (D.int IntKind.i64 (0 : Int))))))
 (VC.br (decide ((4 : Int) ≤ i))
  (VC.ret (some (RR.c (Rc.d (D.int IntKind.i64 (0 : Int))))))
  (VC.br (decide (i = (0 : Int)))
   (VC.need (PreOk c_wMask (p.w, s.r0) [A.c (D.int IntKind.i64 p.w), A.c (D.int IntKind.i64 s.r0)])
   (VC.ret (some (RR.c (Rc.d (D.int IntKind.i64 (maskS p.w s.r0)))))))
   (VC.br (decide (i = (1 : Int)))
    (VC.need (PreOk c_wMask (p.w, s.r1) [A.c (D.int IntKind.i64 p.w), A.c (D.int IntKind.i64 s.r1)])
    (VC.ret (some (RR.c (Rc.d (D.int IntKind.i64 (maskS p.w s.r1)))))))
    (VC.br (decide (i = (2 : Int)))
     (VC.need (PreOk c_wMask (p.w, s.r2) [A.c (D.int IntKind.i64 p.w), A.c (D.int IntKind.i64 s.r2)])
     (VC.ret (some (RR.c (Rc.d (D.int IntKind.i64 (maskS p.w s.r2)))))))
     (VC.br (decide (i = (3 : Int)))
      (VC.need (PreOk c_wMask (p.w, s.r3) [A.c (D.int IntKind.i64 p.w), A.c (D.int IntKind.i64 s.r3)])
      (VC.ret (some (RR.c (Rc.d (D.int IntKind.i64 (maskS p.w s.r3)))))))
      VC.ff)))))) := by kernel_rfl
theorem c_sReg_good : c_sReg.fe.Good Try.prog := by
  refine FT.good c_sReg ⟨Try.f104, by kernel_rfl, by decide +kernel, by kernel_rfl⟩ (fun ⟨p, s, i⟩ => by first | rfl | simp [c_sReg, rrRef, rnum, rby, rss, rnewI, rnewE, rstab, rplaces, ri, rb, rib, rins, Sta.fresh]) fun ⟨p, s, i⟩ hp => ?_
  refine acalls_le s_sReg_sound (fn := Try.f104) (a := a_sReg) (nargs := 3) (tbl := []) (by kernel_rfl) (by kernel_rfl) rfl (m := 400) ?_
  show VC.holds _ _ _ (a_sReg.start s_sReg 400 [ap p, as_ s, ai i])
  rw [t_sReg]
  try simp only [asRows_sl, asInt_int, asBool_bool, asStr_str, listOf_rowsOn, List.drop_zero, Prg.eta, Sta.eta, rowsOn_length, getD_drop, Nat.reduceAdd, rd_int, rd_PMem_name, rd_PMem_secret, rd_PMem_n, rd_PLabel_name, rd_PLabel_at_, rd_Ins_kind, rd_Ins_op, rd_Ins_d, rd_Ins_aR, rd_Ins_aN, rd_Ins_bR, rd_Ins_bN, rd_Ins_name, rd_Ins_target, rd_Ent_pc, rd_Ent_val, rd_Ent_addr, rd_Ent_fro, rd_Ent_next, rd_Ent_done, rd_Ent_known, rd_Ent_fault, rd_Place_reg, rd_Place_n, rd_Place_secret, rd_Obs_kind, rd_Obs_at_, rd_Dir_kind, rd_Dir_n, Prg.of_cells, Sta.of_cells]
  try simp only [c_sReg] at hp
  repeat' first
    | refine br_not ?_
    | refine br_dec (fun _ => ?_) (fun _ => ?_)
    | refine br_beq (fun _ => ?_) (fun _ => ?_)
    | refine br_bne (fun _ => ?_) (fun _ => ?_)
    | refine br_holds (fun _ => ?_) (fun _ => ?_)
    | refine ⟨PreOk.mk ?_ rfl, ?_⟩
    | refine ⟨idx_ok _ _ _ rfl (by omega) (by omega), ?_⟩
    | refine ⟨okSh_ok _ _ _ (fun _ => rfl) (by omega) (by omega), ?_⟩
    | refine ⟨okSh_okD _ _ _ _ (fun _ => rfl) (by omega) (by omega), ?_⟩
    | refine ⟨aload_ok _ _ rfl (fun _ => rfl) (by omega) (by omega), ?_⟩
    | refine ⟨aload_okD _ _ _ rfl (fun _ => rfl) (by omega) (by omega), ?_⟩
    | refine ⟨astore_ok (by assumption) rfl (by omega) (by omega) (by decide), ?_⟩
    | refine ⟨app_ok (by assumption) rfl rfl (by simp only [List.length_cons, List.length_nil]; omega), ?_⟩
    | refine need_holds ?_ fun _ => ?_
    | refine all_holds fun y hy => ?_
    | refine ret_le ?_
  all_goals try exact trivial
  all_goals try (exfalso; omega)
  · exact RR.le_of_eq (by show _ = ri (maskS p.w (s.reg i)); rw [reg_out s (by omega), maskS_0]; rfl)
  · exact RR.le_of_eq (by show _ = ri (maskS p.w (s.reg i)); rw [reg_out s (by omega), maskS_0]; rfl)
  all_goals subst_vars
  all_goals exact RR.le_refl _
noncomputable def v_sReg : Prg × Sta × Int → Int := fun x => maskS x.1.w (x.2.1.reg x.2.2)
noncomputable def sh_sReg : Int → RR := fun i => ri i
theorem e_sReg (x : Prg × Sta × Int) : sh_sReg (v_sReg x) = c_sReg.ans x := rfl
def rdPSV : List A → Prg × Sta × Bool × Int
  | [.agg l, .agg s, .agg [.bool r, .int _ i]] => (Prg.of l, Sta.of s, r, i)
  | _ => default
def c_sVal : FT (Prg × Sta × Bool × Int) := ⟨103, fun x => [ap x.1, as_ x.2.1, aVal x.2.2.1 x.2.2.2], rdPSV, fun _ => True, fun x => ri (valS x.1.w x.2.1 x.2.2.1 x.2.2.2), false, fun x => by simp [ap, as_, aVal, rdPSV]⟩
noncomputable def a_sVal : FnA := (fnA Try.prog Try.f103 3 []).getD ⟨0, .skip, [], []⟩
noncomputable def s_sVal : Sp := spT [c_wMask.fe, c_sReg.gfe v_sReg sh_sReg e_sReg]
theorem s_sVal_sound : s_sVal.sound Try.prog := spT_sound fun e he => by
  simp only [List.mem_cons, List.not_mem_nil, or_false] at he
  rcases he with rfl | rfl
  · exact c_wMask_good
  · exact FT.gfe_good c_sReg_good
set_option maxRecDepth 100000 in
theorem t_sVal (p : Prg) (s : Sta) (r : Bool) (n : Int) : a_sVal.start s_sVal 400 [ap p, as_ s, aVal r n] =
(VC.br (r)
 (VC.need (PreOk c_sReg (Prg.of (Prg.cells p), Sta.of (Sta.cells s), n) [A.agg (Prg.cells p), A.agg (Sta.cells s), A.c (D.int IntKind.i64 n)])
 (VC.all (v_sReg (Prg.of (Prg.cells p), Sta.of (Sta.cells s), n)) fun (y4 : Int) =>
 (VC.ret (some (RR.c (Rc.d (D.int IntKind.i64 y4)))))))
 (VC.need (PreOk c_wMask (p.w, n) [A.c (D.int IntKind.i64 p.w), A.c (D.int IntKind.i64 n)])
 (VC.ret (some (RR.c (Rc.d (D.int IntKind.i64 (maskS p.w n)))))))) := by kernel_rfl
theorem c_sVal_good : c_sVal.fe.Good Try.prog := by
  refine FT.good c_sVal ⟨Try.f103, by kernel_rfl, by decide +kernel, by kernel_rfl⟩ (fun ⟨p, s, r, n⟩ => by first | rfl | simp [c_sVal, rrRef, rnum, rby, rss, rnewI, rnewE, rstab, rplaces, ri, rb, rib, rins, Sta.fresh]) fun ⟨p, s, r, n⟩ hp => ?_
  refine acalls_le s_sVal_sound (fn := Try.f103) (a := a_sVal) (nargs := 3) (tbl := []) (by kernel_rfl) (by kernel_rfl) rfl (m := 400) ?_
  show VC.holds _ _ _ (a_sVal.start s_sVal 400 [ap p, as_ s, aVal r n])
  rw [t_sVal]
  try simp only [asRows_sl, asInt_int, asBool_bool, asStr_str, listOf_rowsOn, List.drop_zero, Prg.eta, Sta.eta, rowsOn_length, getD_drop, Nat.reduceAdd, rd_int, rd_PMem_name, rd_PMem_secret, rd_PMem_n, rd_PLabel_name, rd_PLabel_at_, rd_Ins_kind, rd_Ins_op, rd_Ins_d, rd_Ins_aR, rd_Ins_aN, rd_Ins_bR, rd_Ins_bN, rd_Ins_name, rd_Ins_target, rd_Ent_pc, rd_Ent_val, rd_Ent_addr, rd_Ent_fro, rd_Ent_next, rd_Ent_done, rd_Ent_known, rd_Ent_fault, rd_Place_reg, rd_Place_n, rd_Place_secret, rd_Obs_kind, rd_Obs_at_, rd_Dir_kind, rd_Dir_n, Prg.of_cells, Sta.of_cells]
  try simp only [c_sVal] at hp
  repeat' first
    | refine br_not ?_
    | refine br_dec (fun _ => ?_) (fun _ => ?_)
    | refine br_beq (fun _ => ?_) (fun _ => ?_)
    | refine br_bne (fun _ => ?_) (fun _ => ?_)
    | refine br_holds (fun _ => ?_) (fun _ => ?_)
    | refine ⟨PreOk.mk ?_ rfl, ?_⟩
    | refine ⟨idx_ok _ _ _ rfl (by omega) (by omega), ?_⟩
    | refine ⟨okSh_ok _ _ _ (fun _ => rfl) (by omega) (by omega), ?_⟩
    | refine ⟨okSh_okD _ _ _ _ (fun _ => rfl) (by omega) (by omega), ?_⟩
    | refine ⟨aload_ok _ _ rfl (fun _ => rfl) (by omega) (by omega), ?_⟩
    | refine ⟨aload_okD _ _ _ rfl (fun _ => rfl) (by omega) (by omega), ?_⟩
    | refine ⟨astore_ok (by assumption) rfl (by omega) (by omega) (by decide), ?_⟩
    | refine ⟨app_ok (by assumption) rfl rfl (by simp only [List.length_cons, List.length_nil]; omega), ?_⟩
    | refine need_holds ?_ fun _ => ?_
    | refine all_holds fun y hy => ?_
    | refine ret_le ?_
  all_goals subst_vars
  all_goals try exact trivial
  all_goals try simp only [Prg.of_cells, Sta.of_cells]
  all_goals first | exact trivial | refine RR.le_of_eq ?_
  all_goals exact (show RR.c (Rc.d (D.int .i64 _)) = RR.c (Rc.d (D.int .i64 (valS p.w s _ n))) from by simp [valS, v_sReg])
noncomputable def v_sVal : Prg × Sta × Bool × Int → Int := fun x => valS x.1.w x.2.1 x.2.2.1 x.2.2.2
noncomputable def sh_sVal : Int → RR := fun i => ri i
theorem e_sVal (x : Prg × Sta × Bool × Int) : sh_sVal (v_sVal x) = c_sVal.ans x := rfl
def rdPIn3 : List A → Prg × Ins × Int × Int × Int
  | [.agg l, .agg s, .c (.int _ a), .c (.int _ b), .c (.int _ d)] => (Prg.of l, Row.of s, a, b, d)
  | _ => default
def c_sValue : FT (Prg × Ins × Int × Int × Int) := ⟨102, fun x => [ap x.1, aIns x.2.1, ai x.2.2.1, ai x.2.2.2.1, ai x.2.2.2.2], rdPIn3, fun _ => True, fun x => ri (valueS x.1.w x.2.1 x.2.2.1 x.2.2.2.1 x.2.2.2.2), false, fun x => by simp [ap, aIns, ai, rdPIn3, Row.of_row]⟩
noncomputable def a_sValue : FnA := (fnA Try.prog Try.f102 5 []).getD ⟨0, .skip, [], []⟩
def s_sValue : Sp := spT [c_wDo.fe]
theorem s_sValue_sound : s_sValue.sound Try.prog := spT_sound fun e he => by
  simp only [List.mem_cons, List.not_mem_nil, or_false] at he
  rcases he with rfl
  · exact c_wDo_good
set_option maxRecDepth 100000 in
theorem t_sValue (p : Prg) (i : Ins) (a b d : Int) : a_sValue.start s_sValue 400 [ap p, aIns i, ai a, ai b, ai d] =
(VC.br (i.kind == (4 : Int))
 (VC.br (a != (0 : Int))
  (VC.ret (some (RR.c (Rc.d (D.int IntKind.i64 b)))))
  (VC.ret (some (RR.c (Rc.d (D.int IntKind.i64 d))))))
 (VC.need (PreOk c_wDo (p.w, i.op, a, b) [A.c (D.int IntKind.i64 p.w), A.c (D.int IntKind.i64 i.op), A.c (D.int IntKind.i64 a), A.c (D.int IntKind.i64 b)])
 (VC.ret (some (RR.c (Rc.d (D.int IntKind.i64 (doS p.w i.op a b).fst))))))) := by kernel_rfl
theorem c_sValue_good : c_sValue.fe.Good Try.prog := by
  refine FT.good c_sValue ⟨Try.f102, by kernel_rfl, by decide +kernel, by kernel_rfl⟩ (fun ⟨p, i, a, b, d⟩ => by first | rfl | simp [c_sValue, rrRef, rnum, rby, rss, rnewI, rnewE, rstab, rplaces, ri, rb, rib, rins, Sta.fresh]) fun ⟨p, i, a, b, d⟩ hp => ?_
  refine acalls_le s_sValue_sound (fn := Try.f102) (a := a_sValue) (nargs := 5) (tbl := []) (by kernel_rfl) (by kernel_rfl) rfl (m := 400) ?_
  show VC.holds _ _ _ (a_sValue.start s_sValue 400 [ap p, aIns i, ai a, ai b, ai d])
  rw [t_sValue]
  try simp only [asRows_sl, asInt_int, asBool_bool, asStr_str, listOf_rowsOn, List.drop_zero, Prg.eta, Sta.eta, rowsOn_length, getD_drop, Nat.reduceAdd, rd_int, rd_PMem_name, rd_PMem_secret, rd_PMem_n, rd_PLabel_name, rd_PLabel_at_, rd_Ins_kind, rd_Ins_op, rd_Ins_d, rd_Ins_aR, rd_Ins_aN, rd_Ins_bR, rd_Ins_bN, rd_Ins_name, rd_Ins_target, rd_Ent_pc, rd_Ent_val, rd_Ent_addr, rd_Ent_fro, rd_Ent_next, rd_Ent_done, rd_Ent_known, rd_Ent_fault, rd_Place_reg, rd_Place_n, rd_Place_secret, rd_Obs_kind, rd_Obs_at_, rd_Dir_kind, rd_Dir_n, Prg.of_cells, Sta.of_cells]
  try simp only [c_sValue] at hp
  repeat' first
    | refine br_not ?_
    | refine br_dec (fun _ => ?_) (fun _ => ?_)
    | refine br_beq (fun _ => ?_) (fun _ => ?_)
    | refine br_bne (fun _ => ?_) (fun _ => ?_)
    | refine br_holds (fun _ => ?_) (fun _ => ?_)
    | refine ⟨PreOk.mk ?_ rfl, ?_⟩
    | refine ⟨idx_ok _ _ _ rfl (by omega) (by omega), ?_⟩
    | refine ⟨okSh_ok _ _ _ (fun _ => rfl) (by omega) (by omega), ?_⟩
    | refine ⟨okSh_okD _ _ _ _ (fun _ => rfl) (by omega) (by omega), ?_⟩
    | refine ⟨aload_ok _ _ rfl (fun _ => rfl) (by omega) (by omega), ?_⟩
    | refine ⟨aload_okD _ _ _ rfl (fun _ => rfl) (by omega) (by omega), ?_⟩
    | refine ⟨astore_ok (by assumption) rfl (by omega) (by omega) (by decide), ?_⟩
    | refine ⟨app_ok (by assumption) rfl rfl (by simp only [List.length_cons, List.length_nil]; omega), ?_⟩
    | refine need_holds ?_ fun _ => ?_
    | refine all_holds fun y hy => ?_
    | refine ret_le ?_
  all_goals try exact trivial
  all_goals refine RR.le_of_eq ?_
  all_goals simp_all [c_sValue, valueS, ri]
noncomputable def v_sValue : Prg × Ins × Int × Int × Int → Int := fun x => valueS x.1.w x.2.1 x.2.2.1 x.2.2.2.1 x.2.2.2.2
noncomputable def sh_sValue : Int → RR := fun i => ri i
theorem e_sValue (x : Prg × Ins × Int × Int × Int) : sh_sValue (v_sValue x) = c_sValue.ans x := rfl
def rdP2 : List A → Prg × Int × Int
  | [.agg l, .c (.int _ a), .c (.int _ b)] => (Prg.of l, a, b)
  | _ => default
def c_sAddr : FT (Prg × Int × Int) := ⟨131, fun x => [ap x.1, ai x.2.1, ai x.2.2], rdP2, fun x => Mems x.1.mems ∧ 0 ≤ x.2.1 ∧ x.2.1 < 65536 ∧ 0 ≤ x.2.2 ∧ x.2.2 < 65536, fun x => rib (maskS x.1.w (x.2.1 + x.2.2), decide (maskS x.1.w (x.2.1 + x.2.2) < cellsS x.1.mems)), false, fun x => by simp [ap, ai, rdP2]⟩
noncomputable def a_sAddr : FnA := (fnA Try.prog Try.f131 3 []).getD ⟨0, .skip, [], []⟩
noncomputable def v_aCells : Prg → Int := fun x => cellsS x.mems
noncomputable def sh_aCells : Int → RR := fun i => ri i
theorem e_aCells (x : Prg) : sh_aCells (v_aCells x) = c_aCells.ans x := rfl
noncomputable def s_sAddr : Sp := spT [c_wMask.fe, c_aCells.gfe v_aCells sh_aCells e_aCells]
theorem s_sAddr_sound : s_sAddr.sound Try.prog := spT_sound fun e he => by
  simp only [List.mem_cons, List.not_mem_nil, or_false] at he
  rcases he with rfl | rfl
  · exact c_wMask_good
  · exact FT.gfe_good c_aCells_good
set_option maxRecDepth 100000 in
theorem t_sAddr (p : Prg) (a b : Int) : a_sAddr.start s_sAddr 400 [ap p, ai a, ai b] =
(VC.need (PreOk c_wMask (p.w, IntKind.wrap IntKind.i64 (a + b)) [A.c (D.int IntKind.i64 p.w), A.c (D.int IntKind.i64 (IntKind.wrap IntKind.i64 (a + b)))])
(VC.need (PreOk c_aCells p [A.agg (Prg.cells p)])
(VC.all (v_aCells { w := p.w, window := p.window, fuel := p.fuel, r0 := p.r0, r1 := p.r1, r2 := p.r2, r3 := p.r3, mems := listOf PMem (rowsOn p.mems), labels := listOf PLabel (rowsOn p.labels), ins := listOf Ins (rowsOn p.ins) }) fun (y3 : Int) =>
(VC.ret (some (RR.tup [Sum.inl (Rc.d (D.int IntKind.i64 (maskS p.w (IntKind.wrap IntKind.i64 (a + b))))), Sum.inl (Rc.d (D.bool (decide (maskS p.w (IntKind.wrap IntKind.i64 (a + b)) < y3))))])))))) := by kernel_rfl
theorem c_sAddr_good : c_sAddr.fe.Good Try.prog := by
  refine FT.good c_sAddr ⟨Try.f131, by kernel_rfl, by decide +kernel, by kernel_rfl⟩ (fun ⟨p, a, b⟩ => by first | rfl | simp [c_sAddr, rrRef, rnum, rby, rss, rnewI, rnewE, rstab, rplaces, ri, rb, rib, rins, Sta.fresh]) fun ⟨p, a, b⟩ hp => ?_
  refine acalls_le s_sAddr_sound (fn := Try.f131) (a := a_sAddr) (nargs := 3) (tbl := []) (by kernel_rfl) (by kernel_rfl) rfl (m := 400) ?_
  show VC.holds _ _ _ (a_sAddr.start s_sAddr 400 [ap p, ai a, ai b])
  rw [t_sAddr]
  try simp only [asRows_sl, asInt_int, asBool_bool, asStr_str, listOf_rowsOn, List.drop_zero, Prg.eta, Sta.eta, rowsOn_length, getD_drop, Nat.reduceAdd, rd_int, rd_PMem_name, rd_PMem_secret, rd_PMem_n, rd_PLabel_name, rd_PLabel_at_, rd_Ins_kind, rd_Ins_op, rd_Ins_d, rd_Ins_aR, rd_Ins_aN, rd_Ins_bR, rd_Ins_bN, rd_Ins_name, rd_Ins_target, rd_Ent_pc, rd_Ent_val, rd_Ent_addr, rd_Ent_fro, rd_Ent_next, rd_Ent_done, rd_Ent_known, rd_Ent_fault, rd_Place_reg, rd_Place_n, rd_Place_secret, rd_Obs_kind, rd_Obs_at_, rd_Dir_kind, rd_Dir_n, Prg.of_cells, Sta.of_cells]
  try simp only [c_sAddr] at hp
  obtain ⟨hm, h1, h2, h3, h4⟩ := hp
  rw [wrap_small (a + b) (by omega) (by omega)]
  repeat' first
    | refine br_not ?_
    | refine br_dec (fun _ => ?_) (fun _ => ?_)
    | refine br_beq (fun _ => ?_) (fun _ => ?_)
    | refine br_bne (fun _ => ?_) (fun _ => ?_)
    | refine br_holds (fun _ => ?_) (fun _ => ?_)
    | refine ⟨PreOk.mk ?_ rfl, ?_⟩
    | refine ⟨idx_ok _ _ _ rfl (by omega) (by omega), ?_⟩
    | refine ⟨okSh_ok _ _ _ (fun _ => rfl) (by omega) (by omega), ?_⟩
    | refine ⟨okSh_okD _ _ _ _ (fun _ => rfl) (by omega) (by omega), ?_⟩
    | refine ⟨aload_ok _ _ rfl (fun _ => rfl) (by omega) (by omega), ?_⟩
    | refine ⟨aload_okD _ _ _ rfl (fun _ => rfl) (by omega) (by omega), ?_⟩
    | refine ⟨astore_ok (by assumption) rfl (by omega) (by omega) (by decide), ?_⟩
    | refine ⟨app_ok (by assumption) rfl rfl (by simp only [List.length_cons, List.length_nil]; omega), ?_⟩
    | refine need_holds ?_ fun _ => ?_
    | refine all_holds fun y hy => ?_
    | refine ret_le ?_
  all_goals subst_vars
  all_goals try exact trivial
  all_goals try simp only [Prg.of_cells, Sta.of_cells]
  all_goals first | exact hm | exact RR.le_of_eq rfl | trace_state
noncomputable def v_sAddr : Prg × Int × Int → Int × Bool := fun x => (maskS x.1.w (x.2.1 + x.2.2), decide (maskS x.1.w (x.2.1 + x.2.2) < cellsS x.1.mems))
noncomputable def sh_sAddr : Int × Bool → RR := fun i => rib i
theorem e_sAddr (x : Prg × Int × Int) : sh_sAddr (v_sAddr x) = c_sAddr.ans x := rfl
def c_sWay : FT (Prg × Ins × Int × Int × Int) := ⟨107, fun x => [ap x.1, aIns x.2.1, ai x.2.2.1, ai x.2.2.2.1, ai x.2.2.2.2], rdPIn3, fun x => -10 ≤ x.2.2.1 ∧ x.2.2.1 ≤ 1000000, fun x => ri (wayS x.1.w x.1.ins.length x.2.1 x.2.2.1 x.2.2.2.1 x.2.2.2.2), false, fun x => by simp [ap, aIns, ai, rdPIn3, Row.of_row]⟩
noncomputable def a_sWay : FnA := (fnA Try.prog Try.f107 5 []).getD ⟨0, .skip, [], []⟩
def s_sWay : Sp := spT [c_wDo.fe]
theorem s_sWay_sound : s_sWay.sound Try.prog := spT_sound fun e he => by
  simp only [List.mem_cons, List.not_mem_nil, or_false] at he
  rcases he with rfl
  · exact c_wDo_good
set_option maxRecDepth 100000 in
theorem t_sWay (p : Prg) (i : Ins) (pc a b : Int) : a_sWay.start s_sWay 400 [ap p, aIns i, ai pc, ai a, ai b] =
(VC.br (i.kind == (7 : Int))
 (VC.ret (some (RR.c (Rc.d (D.int IntKind.i64 (min a (↑(List.length (rowsOn p.ins)) : Int)))))))
 (VC.need (PreOk c_wDo (p.w, i.op, a, b) [A.c (D.int IntKind.i64 p.w), A.c (D.int IntKind.i64 i.op), A.c (D.int IntKind.i64 a), A.c (D.int IntKind.i64 b)])
 (VC.br ((doS p.w i.op a b).fst != (0 : Int))
  (VC.ret (some (RR.c (Rc.d (D.int IntKind.i64 i.target)))))
  (VC.ret (some (RR.c (Rc.d (D.int IntKind.i64 (IntKind.wrap IntKind.i64 (pc + (1 : Int))))))))))) := by kernel_rfl
theorem c_sWay_good : c_sWay.fe.Good Try.prog := by
  refine FT.good c_sWay ⟨Try.f107, by kernel_rfl, by decide +kernel, by kernel_rfl⟩ (fun ⟨p, i, pc, a, b⟩ => by first | rfl | simp [c_sWay, rrRef, rnum, rby, rss, rnewI, rnewE, rstab, rplaces, ri, rb, rib, rins, Sta.fresh]) fun ⟨p, i, pc, a, b⟩ hp => ?_
  refine acalls_le s_sWay_sound (fn := Try.f107) (a := a_sWay) (nargs := 5) (tbl := []) (by kernel_rfl) (by kernel_rfl) rfl (m := 400) ?_
  show VC.holds _ _ _ (a_sWay.start s_sWay 400 [ap p, aIns i, ai pc, ai a, ai b])
  rw [t_sWay]
  try simp only [asRows_sl, asInt_int, asBool_bool, asStr_str, listOf_rowsOn, List.drop_zero, Prg.eta, Sta.eta, rowsOn_length, getD_drop, Nat.reduceAdd, rd_int, rd_PMem_name, rd_PMem_secret, rd_PMem_n, rd_PLabel_name, rd_PLabel_at_, rd_Ins_kind, rd_Ins_op, rd_Ins_d, rd_Ins_aR, rd_Ins_aN, rd_Ins_bR, rd_Ins_bN, rd_Ins_name, rd_Ins_target, rd_Ent_pc, rd_Ent_val, rd_Ent_addr, rd_Ent_fro, rd_Ent_next, rd_Ent_done, rd_Ent_known, rd_Ent_fault, rd_Place_reg, rd_Place_n, rd_Place_secret, rd_Obs_kind, rd_Obs_at_, rd_Dir_kind, rd_Dir_n, Prg.of_cells, Sta.of_cells]
  try simp only [c_sWay] at hp
  obtain ⟨h1, h2⟩ := hp
  rw [wrap_small (pc + 1) (by omega) (by omega)]
  repeat' first
    | refine br_not ?_
    | refine br_dec (fun _ => ?_) (fun _ => ?_)
    | refine br_beq (fun _ => ?_) (fun _ => ?_)
    | refine br_bne (fun _ => ?_) (fun _ => ?_)
    | refine br_holds (fun _ => ?_) (fun _ => ?_)
    | refine ⟨PreOk.mk ?_ rfl, ?_⟩
    | refine ⟨idx_ok _ _ _ rfl (by omega) (by omega), ?_⟩
    | refine ⟨okSh_ok _ _ _ (fun _ => rfl) (by omega) (by omega), ?_⟩
    | refine ⟨okSh_okD _ _ _ _ (fun _ => rfl) (by omega) (by omega), ?_⟩
    | refine ⟨aload_ok _ _ rfl (fun _ => rfl) (by omega) (by omega), ?_⟩
    | refine ⟨aload_okD _ _ _ rfl (fun _ => rfl) (by omega) (by omega), ?_⟩
    | refine ⟨astore_ok (by assumption) rfl (by omega) (by omega) (by decide), ?_⟩
    | refine ⟨app_ok (by assumption) rfl rfl (by simp only [List.length_cons, List.length_nil]; omega), ?_⟩
    | refine need_holds ?_ fun _ => ?_
    | refine all_holds fun y hy => ?_
    | refine ret_le ?_
  all_goals try exact trivial
  all_goals refine RR.le_of_eq ?_
  all_goals simp_all [c_sWay, wayS, ri]
noncomputable def v_sWay : Prg × Ins × Int × Int × Int → Int := fun x => wayS x.1.w x.1.ins.length x.2.1 x.2.2.1 x.2.2.2.1 x.2.2.2.2
noncomputable def sh_sWay : Int → RR := fun i => ri i
theorem e_sWay (x : Prg × Ins × Int × Int × Int) : sh_sWay (v_sWay x) = c_sWay.ans x := rfl
end Go.Proofs.Ytclabjihjopclaa.Ax
