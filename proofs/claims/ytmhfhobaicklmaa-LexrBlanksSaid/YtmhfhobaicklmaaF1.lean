/- Words: what word's and the reference's functions come to. -/
import Derived.Test.YtmhfhobaicklmaaM1
import Derived.Test.YtmhfhobaicklmaaProg
namespace Go.Proofs.Ytmhfhobaicklmaa.Ax
open Go.RowKit
set_option linter.unusedVariables false
set_option linter.unusedSimpArgs false

def rdI1 : List A → Int
  | [.c (.int _ a)] => a
  | _ => 0
def rdI2 : List A → Int × Int
  | [.c (.int _ a), .c (.int _ b)] => (a, b)
  | _ => (0, 0)
def rdI4 : List A → Int × Int × Int × Int
  | [.c (.int _ a), .c (.int _ b), .c (.int _ c), .c (.int _ d)] => (a, b, c, d)
  | _ => (0, 0, 0, 0)
def rdB1 : List A → Bool
  | [.c (.bool b)] => b
  | _ => false
def ai (n : Int) : A := .c (.int .i64 n)
def ri (n : Int) : RR := .c (.d (.int .i64 n))
def rb (b : Bool) : RR := .c (.d (.bool b))
def rib (x : Int × Bool) : RR := .tup [.inl (.d (.int .i64 x.1)), .inl (.d (.bool x.2))]

def c_wOk : FT Int := ⟨88, fun w => [ai w], rdI1, fun _ => True, fun w => rb (decide (okW w)), false, fun _ => rfl⟩
noncomputable def a_wOk : FnA := (fnA Try.prog Try.f88 1 []).getD ⟨0, .skip, [], []⟩
def s_wOk : Sp := spT []
theorem s_wOk_sound : s_wOk.sound Try.prog := spT_sound fun e he => by cases he
set_option maxRecDepth 100000 in
theorem t_wOk (w : Int) : a_wOk.start s_wOk 400 [ai w] =
(VC.br (decide ((1 : Int) ≤ w))
 (VC.ret (some (RR.c (Rc.d (D.bool (decide (w ≤ (16 : Int))))))))
 (VC.ret (some (RR.c (Rc.d (D.bool false)))))) := by kernel_rfl
theorem c_wOk_good : c_wOk.fe.Good Try.prog := by
  refine FT.good c_wOk ⟨Try.f88, by kernel_rfl, by decide +kernel, by kernel_rfl⟩ (fun w => by first | rfl | simp [c_wOk, rrRef, ri, rb, rib, Sta.fresh]) fun w hp => ?_
  refine acalls_le s_wOk_sound (fn := Try.f88) (a := a_wOk) (nargs := 1) (tbl := []) (by kernel_rfl) (by kernel_rfl) rfl (m := 400) ?_
  show VC.holds _ _ _ (a_wOk.start s_wOk 400 [ai w])
  rw [t_wOk]
  try simp only [asRows_sl, asInt_int, asBool_bool, asStr_str, listOf_rowsOn, List.drop_zero, Prg.eta, Sta.eta, rowsOn_length, getD_drop, Nat.reduceAdd, rd_int, rd_PMem_name, rd_PMem_secret, rd_PMem_n, rd_PLabel_name, rd_PLabel_at_, rd_Ins_kind, rd_Ins_op, rd_Ins_d, rd_Ins_aR, rd_Ins_aN, rd_Ins_bR, rd_Ins_bN, rd_Ins_name, rd_Ins_target, rd_Ent_pc, rd_Ent_val, rd_Ent_addr, rd_Ent_fro, rd_Ent_next, rd_Ent_done, rd_Ent_known, rd_Ent_fault, rd_Place_reg, rd_Place_n, rd_Place_secret, rd_Obs_kind, rd_Obs_at_, rd_Dir_kind, rd_Dir_n]
  try simp only [c_wOk] at hp
  repeat' first
    | refine br_not ?_
    | refine br_dec (fun _ => ?_) (fun _ => ?_)
    | refine br_beq (fun _ => ?_) (fun _ => ?_)
    | refine br_bne (fun _ => ?_) (fun _ => ?_)
    | refine br_holds (fun _ => ?_) (fun _ => ?_)
    | refine ⟨PreOk.mk ?_ rfl, ?_⟩
    | refine ⟨idx_ok _ _ _ rfl (by omega) (by omega), ?_⟩
    | refine ⟨okSh_ok _ _ _ (fun _ => rfl) (by omega) (by omega), ?_⟩
    | refine ⟨okSh_okD _ _ _ _ (fun _ => rfl) (by omega) (by omega), ?_⟩
    | refine ⟨aload_ok _ _ rfl (fun _ => rfl) (by omega) (by omega), ?_⟩
    | refine ⟨aload_okD _ _ _ rfl (fun _ => rfl) (by omega) (by omega), ?_⟩
    | refine ⟨astore_ok (by assumption) rfl (by omega) (by omega) (by decide), ?_⟩
    | refine ⟨app_ok (by assumption) rfl rfl (by simp only [List.length_cons, List.length_nil]; omega), ?_⟩
    | refine need_holds ?_ fun _ => ?_
    | refine all_holds fun y hy => ?_
    | refine ret_eq ?_
  · have : okW w ↔ w ≤ 16 := by unfold okW; omega
    simp only [c_wOk, rb, this]
  · have : ¬ okW w := by unfold okW; omega
    simp only [c_wOk, rb, this, decide_false]
def c_wSize : FT Int := ⟨89, fun w => [ai w], rdI1, fun _ => True, fun w => ri (sizeS w), false, fun _ => rfl⟩
noncomputable def a_wSize : FnA := (fnA Try.prog Try.f89 1 []).getD ⟨0, .skip, [], []⟩
def s_wSize : Sp := spT [c_wOk.fe]
theorem s_wSize_sound : s_wSize.sound Try.prog := spT_sound fun e he => by
  simp only [List.mem_cons, List.not_mem_nil, or_false] at he
  rcases he with rfl
  · exact c_wOk_good
set_option maxRecDepth 100000 in
theorem t_wSize (w : Int) : a_wSize.start s_wSize 400 [ai w] =
(VC.need (PreOk c_wOk w [A.c (D.int IntKind.i64 w)])
(VC.br (!decide (okW w))
 (VC.ret (some (RR.c (Rc.d (D.int IntKind.i64 (0 : Int))))))
 (VC.need ((0 : Int) ≤ w)
 (VC.ret (some (RR.c (Rc.d (D.int IntKind.i64 (IntKind.wrap IntKind.i64 ((1 : Int) * (2 : Int) ^ min (Int.toNat w) (64 : Nat))))))))))) := by kernel_rfl
theorem c_wSize_good : c_wSize.fe.Good Try.prog := by
  refine FT.good c_wSize ⟨Try.f89, by kernel_rfl, by decide +kernel, by kernel_rfl⟩ (fun w => by first | rfl | simp [c_wSize, rrRef, ri, rb, rib, Sta.fresh]) fun w hp => ?_
  refine acalls_le s_wSize_sound (fn := Try.f89) (a := a_wSize) (nargs := 1) (tbl := []) (by kernel_rfl) (by kernel_rfl) rfl (m := 400) ?_
  show VC.holds _ _ _ (a_wSize.start s_wSize 400 [ai w])
  rw [t_wSize]
  try simp only [asRows_sl, asInt_int, asBool_bool, asStr_str, listOf_rowsOn, List.drop_zero, Prg.eta, Sta.eta, rowsOn_length, getD_drop, Nat.reduceAdd, rd_int, rd_PMem_name, rd_PMem_secret, rd_PMem_n, rd_PLabel_name, rd_PLabel_at_, rd_Ins_kind, rd_Ins_op, rd_Ins_d, rd_Ins_aR, rd_Ins_aN, rd_Ins_bR, rd_Ins_bN, rd_Ins_name, rd_Ins_target, rd_Ent_pc, rd_Ent_val, rd_Ent_addr, rd_Ent_fro, rd_Ent_next, rd_Ent_done, rd_Ent_known, rd_Ent_fault, rd_Place_reg, rd_Place_n, rd_Place_secret, rd_Obs_kind, rd_Obs_at_, rd_Dir_kind, rd_Dir_n]
  try simp only [c_wSize] at hp
  repeat' first
    | refine br_not ?_
    | refine br_dec (fun _ => ?_) (fun _ => ?_)
    | refine br_beq (fun _ => ?_) (fun _ => ?_)
    | refine br_bne (fun _ => ?_) (fun _ => ?_)
    | refine br_holds (fun _ => ?_) (fun _ => ?_)
    | refine ⟨PreOk.mk ?_ rfl, ?_⟩
    | refine ⟨idx_ok _ _ _ rfl (by omega) (by omega), ?_⟩
    | refine ⟨okSh_ok _ _ _ (fun _ => rfl) (by omega) (by omega), ?_⟩
    | refine ⟨okSh_okD _ _ _ _ (fun _ => rfl) (by omega) (by omega), ?_⟩
    | refine ⟨aload_ok _ _ rfl (fun _ => rfl) (by omega) (by omega), ?_⟩
    | refine ⟨aload_okD _ _ _ rfl (fun _ => rfl) (by omega) (by omega), ?_⟩
    | refine ⟨astore_ok (by assumption) rfl (by omega) (by omega) (by decide), ?_⟩
    | refine ⟨app_ok (by assumption) rfl rfl (by simp only [List.length_cons, List.length_nil]; omega), ?_⟩
    | refine need_holds ?_ fun _ => ?_
    | refine all_holds fun y hy => ?_
    | refine ret_eq ?_
  · trivial
  · rename_i h2; unfold okW at h2; omega
  · rename_i h2 h3
    have h4 := pow_small h2
    have h5 : min w.toNat 64 = w.toNat := by unfold okW at h2; omega
    simp only [c_wSize, ri, sizeS, if_pos h2, h5, Int.one_mul]
    rw [wrap_small _ (by omega) (by omega)]
  · rename_i h2
    simp only [c_wSize, ri, sizeS, if_neg h2]
def c_wMask : FT (Int × Int) := ⟨49, fun x => [ai x.1, ai x.2], rdI2, fun _ => True, fun x => ri (maskS x.1 x.2), false, fun _ => rfl⟩
noncomputable def a_wMask : FnA := (fnA Try.prog Try.f49 2 []).getD ⟨0, .skip, [], []⟩
def s_wMask : Sp := spT [c_wOk.fe, c_wSize.fe]
theorem s_wMask_sound : s_wMask.sound Try.prog := spT_sound fun e he => by
  simp only [List.mem_cons, List.not_mem_nil, or_false] at he
  rcases he with rfl | rfl
  · exact c_wOk_good
  · exact c_wSize_good
set_option maxRecDepth 100000 in
theorem t_wMask (w n : Int) : a_wMask.start s_wMask 400 [ai w, ai n] =
(VC.need (PreOk c_wOk w [A.c (D.int IntKind.i64 w)])
(VC.br (!decide (okW w))
 (VC.ret (some (RR.c (Rc.d (D.int IntKind.i64 (0 : Int))))))
 (VC.need (PreOk c_wSize w [A.c (D.int IntKind.i64 w)])
 (VC.ret (some (RR.c (Rc.d (D.int IntKind.i64 (bits BinOp.and IntKind.i64 n (IntKind.wrap IntKind.i64 (sizeS w - (1 : Int)))))))))))) := by kernel_rfl
theorem c_wMask_good : c_wMask.fe.Good Try.prog := by
  refine FT.good c_wMask ⟨Try.f49, by kernel_rfl, by decide +kernel, by kernel_rfl⟩ (fun ⟨w, n⟩ => by first | rfl | simp [c_wMask, rrRef, ri, rb, rib, Sta.fresh]) fun ⟨w, n⟩ hp => ?_
  refine acalls_le s_wMask_sound (fn := Try.f49) (a := a_wMask) (nargs := 2) (tbl := []) (by kernel_rfl) (by kernel_rfl) rfl (m := 400) ?_
  show VC.holds _ _ _ (a_wMask.start s_wMask 400 [ai w, ai n])
  rw [t_wMask]
  try simp only [asRows_sl, asInt_int, asBool_bool, asStr_str, listOf_rowsOn, List.drop_zero, Prg.eta, Sta.eta, rowsOn_length, getD_drop, Nat.reduceAdd, rd_int, rd_PMem_name, rd_PMem_secret, rd_PMem_n, rd_PLabel_name, rd_PLabel_at_, rd_Ins_kind, rd_Ins_op, rd_Ins_d, rd_Ins_aR, rd_Ins_aN, rd_Ins_bR, rd_Ins_bN, rd_Ins_name, rd_Ins_target, rd_Ent_pc, rd_Ent_val, rd_Ent_addr, rd_Ent_fro, rd_Ent_next, rd_Ent_done, rd_Ent_known, rd_Ent_fault, rd_Place_reg, rd_Place_n, rd_Place_secret, rd_Obs_kind, rd_Obs_at_, rd_Dir_kind, rd_Dir_n]
  try simp only [c_wMask] at hp
  repeat' first
    | refine br_not ?_
    | refine br_dec (fun _ => ?_) (fun _ => ?_)
    | refine br_beq (fun _ => ?_) (fun _ => ?_)
    | refine br_bne (fun _ => ?_) (fun _ => ?_)
    | refine br_holds (fun _ => ?_) (fun _ => ?_)
    | refine ⟨PreOk.mk ?_ rfl, ?_⟩
    | refine ⟨idx_ok _ _ _ rfl (by omega) (by omega), ?_⟩
    | refine ⟨okSh_ok _ _ _ (fun _ => rfl) (by omega) (by omega), ?_⟩
    | refine ⟨okSh_okD _ _ _ _ (fun _ => rfl) (by omega) (by omega), ?_⟩
    | refine ⟨aload_ok _ _ rfl (fun _ => rfl) (by omega) (by omega), ?_⟩
    | refine ⟨aload_okD _ _ _ rfl (fun _ => rfl) (by omega) (by omega), ?_⟩
    | refine ⟨astore_ok (by assumption) rfl (by omega) (by omega) (by decide), ?_⟩
    | refine ⟨app_ok (by assumption) rfl rfl (by simp only [List.length_cons, List.length_nil]; omega), ?_⟩
    | refine need_holds ?_ fun _ => ?_
    | refine all_holds fun y hy => ?_
    | refine ret_eq ?_
  all_goals try exact trivial
  · rename_i h2
    have h4 := pow_small h2
    simp only [c_wMask, ri, maskS, if_pos h2, sizeS]
    rw [wrap_small _ (by omega) (by omega), and_mask _ _ (by unfold okW at h2; omega)]
  · rename_i h2
    simp only [c_wMask, ri, maskS, if_neg h2]
def c_wTruth : FT Bool := ⟨113, fun b => [.c (.bool b)], rdB1, fun _ => True, fun b => ri (truthS b), false, fun _ => rfl⟩
noncomputable def a_wTruth : FnA := (fnA Try.prog Try.f113 1 []).getD ⟨0, .skip, [], []⟩
def s_wTruth : Sp := spT []
theorem s_wTruth_sound : s_wTruth.sound Try.prog := spT_sound fun e he => by cases he
set_option maxRecDepth 100000 in
theorem t_wTruth (b : Bool) : a_wTruth.start s_wTruth 400 [.c (.bool b)] =
(VC.br (b)
 (VC.ret (some (RR.c (Rc.d (D.int IntKind.i64 (1 : Int))))))
 (VC.ret (some (RR.c (Rc.d (D.int IntKind.i64 (0 : Int))))))) := by kernel_rfl
theorem c_wTruth_good : c_wTruth.fe.Good Try.prog := by
  refine FT.good c_wTruth ⟨Try.f113, by kernel_rfl, by decide +kernel, by kernel_rfl⟩ (fun b => by first | rfl | simp [c_wTruth, rrRef, ri, rb, rib, Sta.fresh]) fun b hp => ?_
  refine acalls_le s_wTruth_sound (fn := Try.f113) (a := a_wTruth) (nargs := 1) (tbl := []) (by kernel_rfl) (by kernel_rfl) rfl (m := 400) ?_
  show VC.holds _ _ _ (a_wTruth.start s_wTruth 400 [.c (.bool b)])
  rw [t_wTruth]
  try simp only [asRows_sl, asInt_int, asBool_bool, asStr_str, listOf_rowsOn, List.drop_zero, Prg.eta, Sta.eta, rowsOn_length, getD_drop, Nat.reduceAdd, rd_int, rd_PMem_name, rd_PMem_secret, rd_PMem_n, rd_PLabel_name, rd_PLabel_at_, rd_Ins_kind, rd_Ins_op, rd_Ins_d, rd_Ins_aR, rd_Ins_aN, rd_Ins_bR, rd_Ins_bN, rd_Ins_name, rd_Ins_target, rd_Ent_pc, rd_Ent_val, rd_Ent_addr, rd_Ent_fro, rd_Ent_next, rd_Ent_done, rd_Ent_known, rd_Ent_fault, rd_Place_reg, rd_Place_n, rd_Place_secret, rd_Obs_kind, rd_Obs_at_, rd_Dir_kind, rd_Dir_n]
  try simp only [c_wTruth] at hp
  repeat' first
    | refine br_not ?_
    | refine br_dec (fun _ => ?_) (fun _ => ?_)
    | refine br_beq (fun _ => ?_) (fun _ => ?_)
    | refine br_bne (fun _ => ?_) (fun _ => ?_)
    | refine br_holds (fun _ => ?_) (fun _ => ?_)
    | refine ⟨PreOk.mk ?_ rfl, ?_⟩
    | refine ⟨idx_ok _ _ _ rfl (by omega) (by omega), ?_⟩
    | refine ⟨okSh_ok _ _ _ (fun _ => rfl) (by omega) (by omega), ?_⟩
    | refine ⟨okSh_okD _ _ _ _ (fun _ => rfl) (by omega) (by omega), ?_⟩
    | refine ⟨aload_ok _ _ rfl (fun _ => rfl) (by omega) (by omega), ?_⟩
    | refine ⟨aload_okD _ _ _ rfl (fun _ => rfl) (by omega) (by omega), ?_⟩
    | refine ⟨astore_ok (by assumption) rfl (by omega) (by omega) (by decide), ?_⟩
    | refine ⟨app_ok (by assumption) rfl rfl (by simp only [List.length_cons, List.length_nil]; omega), ?_⟩
    | refine need_holds ?_ fun _ => ?_
    | refine all_holds fun y hy => ?_
    | refine ret_eq ?_
  · rename_i h; subst h; rfl
  · rename_i h; subst h; rfl
def c_wMoved : FT (Int × Int × Int × Int) := ⟨112, fun x => [ai x.1, ai x.2.1, ai x.2.2.1, ai x.2.2.2], rdI4, fun x => okW x.1 ∧ (x.2.1 = 6 ∨ x.2.1 = 7) ∧ 0 ≤ x.2.2.1 ∧ x.2.2.1 < 2 ^ x.1.toNat ∧ 0 ≤ x.2.2.2, fun x => ri (movedS x.1 x.2.1 x.2.2.1 x.2.2.2), false, fun _ => rfl⟩
noncomputable def a_wMoved : FnA := (fnA Try.prog Try.f112 4 []).getD ⟨0, .skip, [], []⟩
def s_wMoved : Sp := spT []
theorem s_wMoved_sound : s_wMoved.sound Try.prog := spT_sound fun e he => by cases he
set_option maxRecDepth 100000 in
theorem t_wMoved (w op a b : Int) : a_wMoved.start s_wMoved 400 [ai w, ai op, ai a, ai b] =
(VC.br (decide (w ≤ b))
 (VC.ret (some (RR.c (Rc.d (D.int IntKind.i64 (0 : Int))))))
 (VC.br (op == (6 : Int))
  (VC.need ((0 : Int) ≤ b)
  (VC.ret (some (RR.c (Rc.d (D.int IntKind.i64 (IntKind.wrap IntKind.i64 (a * (2 : Int) ^ min (Int.toNat b) (64 : Nat)))))))))
  (VC.need ((0 : Int) ≤ b)
  (VC.ret (some (RR.c (Rc.d (D.int IntKind.i64 (Int.fdiv a ((2 : Int) ^ min (Int.toNat b) (64 : Nat))))))))))) := by kernel_rfl
theorem c_wMoved_good : c_wMoved.fe.Good Try.prog := by
  refine FT.good c_wMoved ⟨Try.f112, by kernel_rfl, by decide +kernel, by kernel_rfl⟩ (fun ⟨w, op, a, b⟩ => by first | rfl | simp [c_wMoved, rrRef, ri, rb, rib, Sta.fresh]) fun ⟨w, op, a, b⟩ hp => ?_
  refine acalls_le s_wMoved_sound (fn := Try.f112) (a := a_wMoved) (nargs := 4) (tbl := []) (by kernel_rfl) (by kernel_rfl) rfl (m := 400) ?_
  show VC.holds _ _ _ (a_wMoved.start s_wMoved 400 [ai w, ai op, ai a, ai b])
  rw [t_wMoved]
  try simp only [asRows_sl, asInt_int, asBool_bool, asStr_str, listOf_rowsOn, List.drop_zero, Prg.eta, Sta.eta, rowsOn_length, getD_drop, Nat.reduceAdd, rd_int, rd_PMem_name, rd_PMem_secret, rd_PMem_n, rd_PLabel_name, rd_PLabel_at_, rd_Ins_kind, rd_Ins_op, rd_Ins_d, rd_Ins_aR, rd_Ins_aN, rd_Ins_bR, rd_Ins_bN, rd_Ins_name, rd_Ins_target, rd_Ent_pc, rd_Ent_val, rd_Ent_addr, rd_Ent_fro, rd_Ent_next, rd_Ent_done, rd_Ent_known, rd_Ent_fault, rd_Place_reg, rd_Place_n, rd_Place_secret, rd_Obs_kind, rd_Obs_at_, rd_Dir_kind, rd_Dir_n]
  try simp only [c_wMoved] at hp
  obtain ⟨h1, h2, h3, h4, h5⟩ := hp
  have h6 := pow_small h1
  have h7 : okW w := h1
  unfold okW at h7
  repeat' first
    | refine br_not ?_
    | refine br_dec (fun _ => ?_) (fun _ => ?_)
    | refine br_beq (fun _ => ?_) (fun _ => ?_)
    | refine br_bne (fun _ => ?_) (fun _ => ?_)
    | refine br_holds (fun _ => ?_) (fun _ => ?_)
    | refine ⟨PreOk.mk ?_ rfl, ?_⟩
    | refine ⟨idx_ok _ _ _ rfl (by omega) (by omega), ?_⟩
    | refine ⟨okSh_ok _ _ _ (fun _ => rfl) (by omega) (by omega), ?_⟩
    | refine ⟨okSh_okD _ _ _ _ (fun _ => rfl) (by omega) (by omega), ?_⟩
    | refine ⟨aload_ok _ _ rfl (fun _ => rfl) (by omega) (by omega), ?_⟩
    | refine ⟨aload_okD _ _ _ rfl (fun _ => rfl) (by omega) (by omega), ?_⟩
    | refine ⟨astore_ok (by assumption) rfl (by omega) (by omega) (by decide), ?_⟩
    | refine ⟨app_ok (by assumption) rfl rfl (by simp only [List.length_cons, List.length_nil]; omega), ?_⟩
    | refine need_holds ?_ fun _ => ?_
    | refine all_holds fun y hy => ?_
    | refine ret_eq ?_
  · rename_i h
    simp only [c_wMoved, ri, movedS, if_pos h]
  · exact h5
  · rename_i h8 h9 h10
    have h11 : min b.toNat 64 = b.toNat := by omega
    have h12 : (2 : Int) ^ b.toNat ≤ 65536 := by
      have : okW (b + 1) := by unfold okW; omega
      have h13 := pow_small this
      have h14 : (b + 1).toNat = b.toNat + 1 := by omega
      rw [h14, Int.pow_succ] at h13
      omega
    have h15 : 0 < (2 : Int) ^ b.toNat := Int.pow_pos (by decide)
    have := mul_small h3 (by omega) (Int.le_of_lt h15) h12
    subst h9
    simp only [c_wMoved, ri, movedS, if_neg h8, if_true, h11]
    rw [wrap_small _ (by omega) (by omega)]
  · exact h5
  · rename_i h8 h9 h10
    have h11 : min b.toNat 64 = b.toNat := by omega
    simp only [c_wMoved, ri, movedS, if_neg h8, if_neg h9, h11]
    rw [Int.fdiv_eq_ediv_of_nonneg _ (Int.le_of_lt (Int.pow_pos (by decide)))]
def c_wDo : FT (Int × Int × Int × Int) := ⟨98, fun x => [ai x.1, ai x.2.1, ai x.2.2.1, ai x.2.2.2], rdI4, fun _ => True, fun x => rib (doS x.1 x.2.1 x.2.2.1 x.2.2.2), false, fun _ => rfl⟩
noncomputable def a_wDo : FnA := (fnA Try.prog Try.f98 4 []).getD ⟨0, .skip, [], []⟩
def s_wDo : Sp := spT [c_wOk.fe, c_wMask.fe, c_wTruth.fe, c_wMoved.fe]
theorem s_wDo_sound : s_wDo.sound Try.prog := spT_sound fun e he => by
  simp only [List.mem_cons, List.not_mem_nil, or_false] at he
  rcases he with rfl | rfl | rfl | rfl
  · exact c_wOk_good
  · exact c_wMask_good
  · exact c_wTruth_good
  · exact c_wMoved_good
set_option maxRecDepth 100000 in
theorem t_wDo (w op a b : Int) : a_wDo.start s_wDo 400 [ai w, ai op, ai a, ai b] =
(VC.need (PreOk c_wOk w [A.c (D.int IntKind.i64 w)])
(VC.br (!decide (okW w))
 (VC.ret (some (RR.tup [Sum.inl (Rc.d (D.int IntKind.i64 (0 : Int))), Sum.inl (Rc.d (D.bool false))])))
 (VC.need (PreOk c_wMask (w, a) [A.c (D.int IntKind.i64 w), A.c (D.int IntKind.i64 a)])
 (VC.need (PreOk c_wMask (w, b) [A.c (D.int IntKind.i64 w), A.c (D.int IntKind.i64 b)])
 (VC.br (op == (1 : Int))
  (VC.need (PreOk c_wMask (w, IntKind.wrap IntKind.i64 (maskS w a + maskS w b)) [A.c (D.int IntKind.i64 w), A.c (D.int IntKind.i64 (IntKind.wrap IntKind.i64 (maskS w a + maskS w b)))])
  (VC.ret (some (RR.tup [Sum.inl (Rc.d (D.int IntKind.i64 (maskS w (IntKind.wrap IntKind.i64 (maskS w a + maskS w b))))), Sum.inl (Rc.d (D.bool true))]))))
  (VC.br (op == (2 : Int))
   (VC.need (PreOk c_wMask (w, IntKind.wrap IntKind.i64 (maskS w a - maskS w b)) [A.c (D.int IntKind.i64 w), A.c (D.int IntKind.i64 (IntKind.wrap IntKind.i64 (maskS w a - maskS w b)))])
   (VC.ret (some (RR.tup [Sum.inl (Rc.d (D.int IntKind.i64 (maskS w (IntKind.wrap IntKind.i64 (maskS w a - maskS w b))))), Sum.inl (Rc.d (D.bool true))]))))
   (VC.br (op == (3 : Int))
    (VC.need (PreOk c_wMask (w, bits BinOp.and IntKind.i64 (maskS w a) (maskS w b)) [A.c (D.int IntKind.i64 w), A.c (D.int IntKind.i64 (bits BinOp.and IntKind.i64 (maskS w a) (maskS w b)))])
    (VC.ret (some (RR.tup [Sum.inl (Rc.d (D.int IntKind.i64 (maskS w (bits BinOp.and IntKind.i64 (maskS w a) (maskS w b))))), Sum.inl (Rc.d (D.bool true))]))))
    (VC.br (op == (4 : Int))
     (VC.need (PreOk c_wMask (w, bits BinOp.or IntKind.i64 (maskS w a) (maskS w b)) [A.c (D.int IntKind.i64 w), A.c (D.int IntKind.i64 (bits BinOp.or IntKind.i64 (maskS w a) (maskS w b)))])
     (VC.ret (some (RR.tup [Sum.inl (Rc.d (D.int IntKind.i64 (maskS w (bits BinOp.or IntKind.i64 (maskS w a) (maskS w b))))), Sum.inl (Rc.d (D.bool true))]))))
     (VC.br (op == (5 : Int))
      (VC.need (PreOk c_wMask (w, bits BinOp.xor IntKind.i64 (maskS w a) (maskS w b)) [A.c (D.int IntKind.i64 w), A.c (D.int IntKind.i64 (bits BinOp.xor IntKind.i64 (maskS w a) (maskS w b)))])
      (VC.ret (some (RR.tup [Sum.inl (Rc.d (D.int IntKind.i64 (maskS w (bits BinOp.xor IntKind.i64 (maskS w a) (maskS w b))))), Sum.inl (Rc.d (D.bool true))]))))
      (VC.br (op == (6 : Int))
       (VC.need (PreOk c_wMoved (w, op, maskS w a, maskS w b) [A.c (D.int IntKind.i64 w), A.c (D.int IntKind.i64 op), A.c (D.int IntKind.i64 (maskS w a)), A.c (D.int IntKind.i64 (maskS w b))])
       (VC.need (PreOk c_wMask (w, movedS w op (maskS w a) (maskS w b)) [A.c (D.int IntKind.i64 w), A.c (D.int IntKind.i64 (movedS w op (maskS w a) (maskS w b)))])
       (VC.ret (some (RR.tup [Sum.inl (Rc.d (D.int IntKind.i64 (maskS w (movedS w op (maskS w a) (maskS w b))))), Sum.inl (Rc.d (D.bool true))])))))
       (VC.br (op == (7 : Int))
        (VC.need (PreOk c_wMoved (w, op, maskS w a, maskS w b) [A.c (D.int IntKind.i64 w), A.c (D.int IntKind.i64 op), A.c (D.int IntKind.i64 (maskS w a)), A.c (D.int IntKind.i64 (maskS w b))])
        (VC.need (PreOk c_wMask (w, movedS w op (maskS w a) (maskS w b)) [A.c (D.int IntKind.i64 w), A.c (D.int IntKind.i64 (movedS w op (maskS w a) (maskS w b)))])
        (VC.ret (some (RR.tup [Sum.inl (Rc.d (D.int IntKind.i64 (maskS w (movedS w op (maskS w a) (maskS w b))))), Sum.inl (Rc.d (D.bool true))])))))
        (VC.br (op == (8 : Int))
         (VC.need (PreOk c_wMask (w, IntKind.wrap IntKind.i64 (maskS w a * maskS w b)) [A.c (D.int IntKind.i64 w), A.c (D.int IntKind.i64 (IntKind.wrap IntKind.i64 (maskS w a * maskS w b)))])
         (VC.ret (some (RR.tup [Sum.inl (Rc.d (D.int IntKind.i64 (maskS w (IntKind.wrap IntKind.i64 (maskS w a * maskS w b))))), Sum.inl (Rc.d (D.bool true))]))))
         (VC.br (op == (9 : Int))
          (VC.need (PreOk c_wTruth (decide (maskS w a < maskS w b)) [A.c (D.bool (decide (maskS w a < maskS w b)))])
          (VC.need (PreOk c_wMask (w, truthS (decide (maskS w a < maskS w b))) [A.c (D.int IntKind.i64 w), A.c (D.int IntKind.i64 (truthS (decide (maskS w a < maskS w b))))])
          (VC.ret (some (RR.tup [Sum.inl (Rc.d (D.int IntKind.i64 (maskS w (truthS (decide (maskS w a < maskS w b)))))), Sum.inl (Rc.d (D.bool true))])))))
          (VC.br (op == (10 : Int))
           (VC.need (PreOk c_wTruth (maskS w a == maskS w b) [A.c (D.bool (maskS w a == maskS w b))])
           (VC.need (PreOk c_wMask (w, truthS (maskS w a == maskS w b)) [A.c (D.int IntKind.i64 w), A.c (D.int IntKind.i64 (truthS (maskS w a == maskS w b)))])
           (VC.ret (some (RR.tup [Sum.inl (Rc.d (D.int IntKind.i64 (maskS w (truthS (maskS w a == maskS w b))))), Sum.inl (Rc.d (D.bool true))])))))
           (VC.ret (some (RR.tup [Sum.inl (Rc.d (D.int IntKind.i64 (0 : Int))), Sum.inl (Rc.d (D.bool false))]))))))))))))))))) := by kernel_rfl
theorem c_wDo_good : c_wDo.fe.Good Try.prog := by
  refine FT.good c_wDo ⟨Try.f98, by kernel_rfl, by decide +kernel, by kernel_rfl⟩ (fun ⟨w, op, a, b⟩ => by first | rfl | simp [c_wDo, rrRef, ri, rb, rib, Sta.fresh]) fun ⟨w, op, a, b⟩ hp => ?_
  refine acalls_le s_wDo_sound (fn := Try.f98) (a := a_wDo) (nargs := 4) (tbl := []) (by kernel_rfl) (by kernel_rfl) rfl (m := 400) ?_
  show VC.holds _ _ _ (a_wDo.start s_wDo 400 [ai w, ai op, ai a, ai b])
  rw [t_wDo]
  try simp only [asRows_sl, asInt_int, asBool_bool, asStr_str, listOf_rowsOn, List.drop_zero, Prg.eta, Sta.eta, rowsOn_length, getD_drop, Nat.reduceAdd, rd_int, rd_PMem_name, rd_PMem_secret, rd_PMem_n, rd_PLabel_name, rd_PLabel_at_, rd_Ins_kind, rd_Ins_op, rd_Ins_d, rd_Ins_aR, rd_Ins_aN, rd_Ins_bR, rd_Ins_bN, rd_Ins_name, rd_Ins_target, rd_Ent_pc, rd_Ent_val, rd_Ent_addr, rd_Ent_fro, rd_Ent_next, rd_Ent_done, rd_Ent_known, rd_Ent_fault, rd_Place_reg, rd_Place_n, rd_Place_secret, rd_Obs_kind, rd_Obs_at_, rd_Dir_kind, rd_Dir_n]
  try simp only [c_wDo] at hp
  have ha := maskS_range w a
  have hb := maskS_range w b
  repeat' first
    | refine br_not ?_
    | refine br_dec (fun _ => ?_) (fun _ => ?_)
    | refine br_beq (fun _ => ?_) (fun _ => ?_)
    | refine br_bne (fun _ => ?_) (fun _ => ?_)
    | refine br_holds (fun _ => ?_) (fun _ => ?_)
    | refine ⟨PreOk.mk ?_ rfl, ?_⟩
    | refine ⟨idx_ok _ _ _ rfl (by omega) (by omega), ?_⟩
    | refine ⟨okSh_ok _ _ _ (fun _ => rfl) (by omega) (by omega), ?_⟩
    | refine ⟨okSh_okD _ _ _ _ (fun _ => rfl) (by omega) (by omega), ?_⟩
    | refine ⟨aload_ok _ _ rfl (fun _ => rfl) (by omega) (by omega), ?_⟩
    | refine ⟨aload_okD _ _ _ rfl (fun _ => rfl) (by omega) (by omega), ?_⟩
    | refine ⟨astore_ok (by assumption) rfl (by omega) (by omega) (by decide), ?_⟩
    | refine ⟨app_ok (by assumption) rfl rfl (by simp only [List.length_cons, List.length_nil]; omega), ?_⟩
    | refine need_holds ?_ fun _ => ?_
    | refine all_holds fun y hy => ?_
    | refine ret_eq ?_
  all_goals try exact trivial
  all_goals try (refine ⟨by assumption, by first | (left; assumption) | (right; assumption), ha.1, ?_, hb.1⟩; exact (maskS_ok (by assumption) a).2)
  all_goals try subst op
  all_goals simp only [c_wDo, rib, doS]
  all_goals first
    | rw [if_pos (by assumption)]
    | (rw [if_neg (by assumption)]; done)
  all_goals simp [opS, wrap_add_mask, wrap_sub_mask, wrap_mul_mask, *]
end Go.Proofs.Ytmhfhobaicklmaa.Ax
