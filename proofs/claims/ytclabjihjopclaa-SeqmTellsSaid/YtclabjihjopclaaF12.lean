/- States in bytes, by the document: auguryref7.Code, Same; what numbers tell of a state. -/
import Derived.Test.YtclabjihjopclaaF11
namespace Go.Proofs.Ytclabjihjopclaa.Ax
open Go.RowKit
set_option linter.unusedVariables false
set_option linter.unusedSimpArgs false
theorem numsS_inj {a b : Sta} (h : numsS a = numsS b) : a = b := by
  have hl : a.mem.length = b.mem.length := by
    have : (a.mem.length : Int) = b.mem.length := by
      have := congrArg (fun l : List Int => l.getD 4 0) h
      simpa [numsS] using this
    exact_mod_cast this
  unfold numsS at h
  simp only [List.cons_append, List.nil_append, List.cons.injEq, List.append_assoc] at h
  obtain ⟨h0, h1, h2, h3, _, h4⟩ := h
  obtain ⟨h5, h6⟩ := List.append_inj h4 hl
  simp only [List.cons.injEq] at h6
  obtain ⟨h7, h8⟩ := h6
  obtain ⟨h9, h10⟩ := List.append_inj h8 (by omega)
  simp only [List.cons.injEq, and_true] at h10
  exact Sta.eq_iff.2 ⟨h0, h1, h2, h3, h5, h9, h10⟩
noncomputable def v_rInts : Sta × Unit → List Int := fun x => numsS x.1
noncomputable def sh_rInts : List Int → RR := fun l => .c (.new 1 (rowsOn l))
theorem e_rInts (x : Sta × Unit) : sh_rInts (v_rInts x) = c_rInts.ans x := rfl
def c_rCode : FT (Sta × Unit) := ⟨56, fun s => [as_ s.1], rdS, fun s => SmallS s.1, fun s => rby (codeS s.1), false, fun s => by simp [as_, rdS]⟩
noncomputable def a_rCode : FnA := (fnA Try.prog Try.f56 1 []).getD ⟨0, .skip, [], []⟩
noncomputable def s_rCode : Sp := spT [c_rInts.gfe v_rInts sh_rInts e_rInts, c_rPut.fe]
theorem s_rCode_sound : s_rCode.sound Try.prog := spT_sound fun e he => by
  simp only [List.mem_cons, List.not_mem_nil, or_false] at he
  rcases he with rfl | rfl
  · exact FT.gfe_good c_rInts_good
  · exact c_rPut_good
set_option maxRecDepth 100000 in
theorem t_rCode (s : Sta) : a_rCode.start s_rCode 400 [as_ s] =
(VC.need (PreOk c_rInts (Sta.of (Sta.cells s), ()) [A.agg (Sta.cells s)])
(VC.all (v_rInts (Sta.of (Sta.cells s), ())) fun (y1 : List Int) =>
(VC.need (PreOk c_rPut (y1, ()) [A.c (D.sl (rowsOn y1))])
(VC.ret (some (RR.c (Rc.new (1 : Nat) (rowsOn (bytesS (listOf Int (rowsOn y1))))))))))) := by kernel_rfl
theorem c_rCode_good : c_rCode.fe.Good Try.prog := by
  refine FT.good c_rCode ⟨Try.f56, by kernel_rfl, by decide +kernel, by kernel_rfl⟩ (fun ⟨s, u⟩ => by first | rfl | simp [c_rCode, rrRef, rnum, rby, rss, rnewI, rnewE, rstab, rplaces, ri, rb, rib, Sta.fresh]) fun ⟨s, u⟩ hp => ?_
  refine acalls_le s_rCode_sound (fn := Try.f56) (a := a_rCode) (nargs := 1) (tbl := []) (by kernel_rfl) (by kernel_rfl) rfl (m := 400) ?_
  show VC.holds _ _ _ (a_rCode.start s_rCode 400 [as_ s])
  rw [t_rCode]
  try simp only [asRows_sl, asInt_int, asBool_bool, asStr_str, listOf_rowsOn, List.drop_zero, Prg.eta, Sta.eta, rowsOn_length, getD_drop, Nat.reduceAdd, rd_int, rd_PMem_name, rd_PMem_secret, rd_PMem_n, rd_PLabel_name, rd_PLabel_at_, rd_Ins_kind, rd_Ins_op, rd_Ins_d, rd_Ins_aR, rd_Ins_aN, rd_Ins_bR, rd_Ins_bN, rd_Ins_name, rd_Ins_target, rd_Ent_pc, rd_Ent_val, rd_Ent_addr, rd_Ent_fro, rd_Ent_next, rd_Ent_done, rd_Ent_known, rd_Ent_fault, rd_Place_reg, rd_Place_n, rd_Place_secret, rd_Obs_kind, rd_Obs_at_, rd_Dir_kind, rd_Dir_n]
  try simp only [c_rCode] at hp
  obtain ⟨h1, h2⟩ := hp
  have hl := nums_len s
  simp only [Sta.of_cells]
  repeat' first
    | refine br_not ?_
    | refine br_dec (fun _ => ?_) (fun _ => ?_)
    | refine br_beq (fun _ => ?_) (fun _ => ?_)
    | refine br_bne (fun _ => ?_) (fun _ => ?_)
    | refine br_holds (fun _ => ?_) (fun _ => ?_)
    | refine ⟨PreOk.mk ?_ rfl, ?_⟩
    | refine ⟨idx_ok _ _ _ rfl (by omega) (by omega), ?_⟩
    | refine ⟨okSh_ok _ _ _ (fun _ => rfl) (by omega) (by omega), ?_⟩
    | refine ⟨okSh_okD _ _ _ _ (fun _ => rfl) (by omega) (by omega), ?_⟩
    | refine ⟨aload_ok _ _ rfl (fun _ => rfl) (by omega) (by omega), ?_⟩
    | refine ⟨aload_okD _ _ _ rfl (fun _ => rfl) (by omega) (by omega), ?_⟩
    | refine ⟨astore_ok (by assumption) rfl (by omega) (by omega) (by decide), ?_⟩
    | refine ⟨app_ok (by assumption) rfl rfl (by simp only [List.length_cons, List.length_nil]; omega), ?_⟩
    | refine need_holds ?_ fun _ => ?_
    | refine all_holds fun y hy => ?_
    | refine ret_le ?_
  · exact ⟨h1, h2⟩
  · subst y
    show (numsS s).length ≤ 1000000000
    omega
  · subst y
    exact RR.le_refl _
def c_rSame : FT (Sta × Sta) := ⟨53, fun x => [as_ x.1, as_ x.2], rdSS, fun x => SmallS x.1 ∧ SmallS x.2, fun x => rb (decide (x.1 = x.2)), false, fun s => by simp [as_, rdSS]⟩
noncomputable def a_rSame : FnA := (fnA Try.prog Try.f53 2 []).getD ⟨0, .skip, [], []⟩
noncomputable def s_rSame : Sp := spT [c_rInts.gfe v_rInts sh_rInts e_rInts, c_rSameI.fe]
theorem s_rSame_sound : s_rSame.sound Try.prog := spT_sound fun e he => by
  simp only [List.mem_cons, List.not_mem_nil, or_false] at he
  rcases he with rfl | rfl
  · exact FT.gfe_good c_rInts_good
  · exact c_rSameI_good
set_option maxRecDepth 100000 in
theorem t_rSame (s t : Sta) : a_rSame.start s_rSame 400 [as_ s, as_ t] =
(VC.need (PreOk c_rInts (Sta.of (Sta.cells s), ()) [A.agg (Sta.cells s)])
(VC.all (v_rInts (Sta.of (Sta.cells s), ())) fun (y2 : List Int) =>
(VC.need (PreOk c_rInts (Sta.of (Sta.cells t), ()) [A.agg (Sta.cells t)])
(VC.all (v_rInts (Sta.of (Sta.cells t), ())) fun (y3 : List Int) =>
(VC.need (PreOk c_rSameI (y2, y3) [A.c (D.sl (rowsOn y2)), A.c (D.sl (rowsOn y3))])
(VC.ret (some (RR.c (Rc.d (D.bool (decide (listOf Int (rowsOn y2) = listOf Int (rowsOn y3))))))))))))) := by kernel_rfl
theorem c_rSame_good : c_rSame.fe.Good Try.prog := by
  refine FT.good c_rSame ⟨Try.f53, by kernel_rfl, by decide +kernel, by kernel_rfl⟩ (fun ⟨s, t⟩ => by first | rfl | simp [c_rSame, rrRef, rnum, rby, rss, rnewI, rnewE, rstab, rplaces, ri, rb, rib, Sta.fresh]) fun ⟨s, t⟩ hp => ?_
  refine acalls_le s_rSame_sound (fn := Try.f53) (a := a_rSame) (nargs := 2) (tbl := []) (by kernel_rfl) (by kernel_rfl) rfl (m := 400) ?_
  show VC.holds _ _ _ (a_rSame.start s_rSame 400 [as_ s, as_ t])
  rw [t_rSame]
  try simp only [asRows_sl, asInt_int, asBool_bool, asStr_str, listOf_rowsOn, List.drop_zero, Prg.eta, Sta.eta, rowsOn_length, getD_drop, Nat.reduceAdd, rd_int, rd_PMem_name, rd_PMem_secret, rd_PMem_n, rd_PLabel_name, rd_PLabel_at_, rd_Ins_kind, rd_Ins_op, rd_Ins_d, rd_Ins_aR, rd_Ins_aN, rd_Ins_bR, rd_Ins_bN, rd_Ins_name, rd_Ins_target, rd_Ent_pc, rd_Ent_val, rd_Ent_addr, rd_Ent_fro, rd_Ent_next, rd_Ent_done, rd_Ent_known, rd_Ent_fault, rd_Place_reg, rd_Place_n, rd_Place_secret, rd_Obs_kind, rd_Obs_at_, rd_Dir_kind, rd_Dir_n]
  try simp only [c_rSame] at hp
  obtain ⟨⟨h1, h2⟩, ⟨h3, h4⟩⟩ := hp
  have hl := nums_len s
  simp only [Sta.of_cells]
  repeat' first
    | refine br_not ?_
    | refine br_dec (fun _ => ?_) (fun _ => ?_)
    | refine br_beq (fun _ => ?_) (fun _ => ?_)
    | refine br_bne (fun _ => ?_) (fun _ => ?_)
    | refine br_holds (fun _ => ?_) (fun _ => ?_)
    | refine ⟨PreOk.mk ?_ rfl, ?_⟩
    | refine ⟨idx_ok _ _ _ rfl (by omega) (by omega), ?_⟩
    | refine ⟨okSh_ok _ _ _ (fun _ => rfl) (by omega) (by omega), ?_⟩
    | refine ⟨okSh_okD _ _ _ _ (fun _ => rfl) (by omega) (by omega), ?_⟩
    | refine ⟨aload_ok _ _ rfl (fun _ => rfl) (by omega) (by omega), ?_⟩
    | refine ⟨aload_okD _ _ _ rfl (fun _ => rfl) (by omega) (by omega), ?_⟩
    | refine ⟨astore_ok (by assumption) rfl (by omega) (by omega) (by decide), ?_⟩
    | refine ⟨app_ok (by assumption) rfl rfl (by simp only [List.length_cons, List.length_nil]; omega), ?_⟩
    | refine need_holds ?_ fun _ => ?_
    | refine all_holds fun y hy => ?_
    | refine ret_le ?_
  · exact ⟨h1, h2⟩
  · exact ⟨h3, h4⟩
  · subst_vars
    show (numsS s).length ≤ 1000000000
    omega
  · subst_vars
    exact rb_le (decide_eq_decide.2 ⟨numsS_inj, fun h => by have h : s = t := h; subst h; rfl⟩)
end Go.Proofs.Ytclabjihjopclaa.Ax
