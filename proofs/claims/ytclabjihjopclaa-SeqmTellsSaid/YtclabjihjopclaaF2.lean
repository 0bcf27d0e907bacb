/- Words: what the reference's functions come to. -/
import Derived.Test.YtclabjihjopclaaF1
namespace Go.Proofs.Ytclabjihjopclaa.Ax
open Go.RowKit
set_option linter.unusedVariables false
set_option linter.unusedSimpArgs false
def c_rSize : FT Int := ⟨90, fun w => [ai w], rdI1, fun _ => True, fun w => ri (sizeS w), false, fun _ => rfl⟩
noncomputable def a_rSize : FnA := (fnA Try.prog Try.f90 1 []).getD ⟨0, .skip, [], []⟩
def s_rSize : Sp := spT []
theorem s_rSize_sound : s_rSize.sound Try.prog := spT_sound fun e he => by cases he
set_option maxRecDepth 100000 in
theorem t_rSize (w : Int) : a_rSize.start s_rSize 400 [ai w] =
(VC.br (decide (w < (1 : Int)))
 (VC.ret (some (RR.c (Rc.d (D.int IntKind.i64 (0 : Int))))))
 (VC.br (decide ((16 : Int) < w))
  (VC.ret (some (RR.c (Rc.d (D.int IntKind.i64 (0 : Int))))))
  (VC.need ((0 : Int) ≤ IntKind.wrap IntKind.u64 w)
  (VC.ret (some (RR.c (Rc.d (D.int IntKind.i64 (IntKind.wrap IntKind.i64 ((1 : Int) * (2 : Int) ^ min (Int.toNat (IntKind.wrap IntKind.u64 w)) (64 : Nat))))))))))) := by kernel_rfl
theorem c_rSize_good : c_rSize.fe.Good Try.prog := by
  refine FT.good c_rSize ⟨Try.f90, by kernel_rfl, by decide +kernel, by kernel_rfl⟩ (fun w => by first | rfl | simp [c_rSize, rrRef, rplaces, Sta.fresh]) fun w hp => ?_
  refine acalls_le s_rSize_sound (fn := Try.f90) (a := a_rSize) (nargs := 1) (tbl := []) (by kernel_rfl) (by kernel_rfl) rfl (m := 400) ?_
  show VC.holds _ _ _ (a_rSize.start s_rSize 400 [ai w])
  rw [t_rSize]
  try simp only [asRows_sl, asInt_int, asBool_bool, asStr_str, listOf_rowsOn, List.drop_zero, Prg.eta, Sta.eta, rowsOn_length, getD_drop, Nat.reduceAdd, rd_int, rd_PMem_name, rd_PMem_secret, rd_PMem_n, rd_PLabel_name, rd_PLabel_at_, rd_Ins_kind, rd_Ins_op, rd_Ins_d, rd_Ins_aR, rd_Ins_aN, rd_Ins_bR, rd_Ins_bN, rd_Ins_name, rd_Ins_target, rd_Ent_pc, rd_Ent_val, rd_Ent_addr, rd_Ent_fro, rd_Ent_next, rd_Ent_done, rd_Ent_known, rd_Ent_fault, rd_Place_reg, rd_Place_n, rd_Place_secret, rd_Obs_kind, rd_Obs_at_, rd_Dir_kind, rd_Dir_n]
  try simp only [c_rSize] at hp
  repeat' first
    | refine br_not ?_
    | refine br_dec (fun _ => ?_) (fun _ => ?_)
    | refine br_beq (fun _ => ?_) (fun _ => ?_)
    | refine br_bne (fun _ => ?_) (fun _ => ?_)
    | refine br_holds (fun _ => ?_) (fun _ => ?_)
    | refine ⟨PreOk.mk ?_ rfl, ?_⟩
    | refine ⟨idx_ok _ _ _ rfl (by omega) (by omega), ?_⟩
    | refine ⟨okSh_ok _ _ _ (fun _ => rfl) (by omega) (by omega), ?_⟩
    | refine ⟨okSh_okD _ _ _ _ (fun _ => rfl) (by omega) (by omega), ?_⟩
    | refine ⟨aload_ok _ _ rfl (fun _ => rfl) (by omega) (by omega), ?_⟩
    | refine ⟨aload_okD _ _ _ rfl (fun _ => rfl) (by omega) (by omega), ?_⟩
    | refine ⟨astore_ok (by assumption) rfl (by omega) (by omega) (by decide), ?_⟩
    | refine ⟨app_ok (by assumption) rfl rfl (by simp only [List.length_cons, List.length_nil]; omega), ?_⟩
    | refine need_holds ?_ fun _ => ?_
    | refine all_holds fun y hy => ?_
    | refine ret_eq ?_
  · rename_i h
    have : ¬ okW w := by unfold okW; omega
    simp only [c_rSize, ri, sizeS, if_neg this]
  · rename_i h1 h
    have : ¬ okW w := by unfold okW; omega
    simp only [c_rSize, ri, sizeS, if_neg this]
  · rename_i h1 h2
    have : 0 ≤ w := by omega
    rw [IntKind.wrap_u64]; omega
  · rename_i h1 h2 h3
    have h4 : okW w := by unfold okW; omega
    have h5 := pow_small h4
    have h6 : IntKind.wrap .u64 w = w := by rw [IntKind.wrap_u64]; omega
    have h7 : min w.toNat 64 = w.toNat := by omega
    simp only [c_rSize, ri, sizeS, if_pos h4, h6, h7, Int.one_mul]
    rw [wrap_small _ (by omega) (by omega)]
def c_rMask : FT (Int × Int) := ⟨42, fun x => [ai x.1, ai x.2], rdI2, fun _ => True, fun x => ri (maskS x.1 x.2), false, fun _ => rfl⟩
noncomputable def a_rMask : FnA := (fnA Try.prog Try.f42 2 []).getD ⟨0, .skip, [], []⟩
def s_rMask : Sp := spT [c_rSize.fe]
theorem s_rMask_sound : s_rMask.sound Try.prog := spT_sound fun e he => by
  simp only [List.mem_cons, List.not_mem_nil, or_false] at he
  rcases he with rfl
  · exact c_rSize_good
set_option maxRecDepth 100000 in
theorem t_rMask (w n : Int) : a_rMask.start s_rMask 400 [ai w, ai n] =
(VC.need (PreOk c_rSize w [A.c (D.int IntKind.i64 w)])
(VC.br (sizeS w == (0 : Int))
 (VC.ret (some (RR.c (Rc.d (D.int IntKind.i64 (0 : Int))))))
 (VC.need (sizeS w ≠ (0 : Int))
 (VC.need (sizeS w ≠ (0 : Int))
 (VC.ret (some (RR.c (Rc.d (D.int IntKind.i64 (Int.tmod (IntKind.wrap IntKind.i64 (Int.tmod n (sizeS w) + sizeS w)) (sizeS w))))))))))) := by kernel_rfl
theorem c_rMask_good : c_rMask.fe.Good Try.prog := by
  refine FT.good c_rMask ⟨Try.f42, by kernel_rfl, by decide +kernel, by kernel_rfl⟩ (fun ⟨w, n⟩ => by first | rfl | simp [c_rMask, rrRef, rplaces, Sta.fresh]) fun ⟨w, n⟩ hp => ?_
  refine acalls_le s_rMask_sound (fn := Try.f42) (a := a_rMask) (nargs := 2) (tbl := []) (by kernel_rfl) (by kernel_rfl) rfl (m := 400) ?_
  show VC.holds _ _ _ (a_rMask.start s_rMask 400 [ai w, ai n])
  rw [t_rMask]
  try simp only [asRows_sl, asInt_int, asBool_bool, asStr_str, listOf_rowsOn, List.drop_zero, Prg.eta, Sta.eta, rowsOn_length, getD_drop, Nat.reduceAdd, rd_int, rd_PMem_name, rd_PMem_secret, rd_PMem_n, rd_PLabel_name, rd_PLabel_at_, rd_Ins_kind, rd_Ins_op, rd_Ins_d, rd_Ins_aR, rd_Ins_aN, rd_Ins_bR, rd_Ins_bN, rd_Ins_name, rd_Ins_target, rd_Ent_pc, rd_Ent_val, rd_Ent_addr, rd_Ent_fro, rd_Ent_next, rd_Ent_done, rd_Ent_known, rd_Ent_fault, rd_Place_reg, rd_Place_n, rd_Place_secret, rd_Obs_kind, rd_Obs_at_, rd_Dir_kind, rd_Dir_n]
  try simp only [c_rMask] at hp
  repeat' first
    | refine br_not ?_
    | refine br_dec (fun _ => ?_) (fun _ => ?_)
    | refine br_beq (fun _ => ?_) (fun _ => ?_)
    | refine br_bne (fun _ => ?_) (fun _ => ?_)
    | refine br_holds (fun _ => ?_) (fun _ => ?_)
    | refine ⟨PreOk.mk ?_ rfl, ?_⟩
    | refine ⟨idx_ok _ _ _ rfl (by omega) (by omega), ?_⟩
    | refine ⟨okSh_ok _ _ _ (fun _ => rfl) (by omega) (by omega), ?_⟩
    | refine ⟨okSh_okD _ _ _ _ (fun _ => rfl) (by omega) (by omega), ?_⟩
    | refine ⟨aload_ok _ _ rfl (fun _ => rfl) (by omega) (by omega), ?_⟩
    | refine ⟨aload_okD _ _ _ rfl (fun _ => rfl) (by omega) (by omega), ?_⟩
    | refine ⟨astore_ok (by assumption) rfl (by omega) (by omega) (by decide), ?_⟩
    | refine ⟨app_ok (by assumption) rfl rfl (by simp only [List.length_cons, List.length_nil]; omega), ?_⟩
    | refine need_holds ?_ fun _ => ?_
    | refine all_holds fun y hy => ?_
    | refine ret_eq ?_
  all_goals try exact trivial
  · rename_i h
    have : ¬ okW w := fun h1 => by
      have := pow_small h1
      simp only [sizeS, if_pos h1] at h
      omega
    simp only [c_rMask, ri, maskS, if_neg this]
  · exact ‹¬ _›
  · exact ‹¬ _›
  · rename_i h1 h2 h3
    have h4 : okW w := Decidable.byContradiction fun h => h1 (by simp only [sizeS, if_neg h])
    have h5 := pow_small h4
    have h6 : sizeS w = 2 ^ w.toNat := if_pos h4
    have h7 := Int.tmod_lt_of_pos n h5.1
    have h8 := Int.lt_tmod_of_pos n h5.1
    simp only [c_rMask, ri, maskS, if_pos h4, h6]
    rw [wrap_small _ (by omega) (by omega), tmod_mod _ _ h5.1]
def c_rTruth : FT Bool := ⟨132, fun b => [.c (.bool b)], rdB1, fun _ => True, fun b => ri (truthS b), false, fun _ => rfl⟩
noncomputable def a_rTruth : FnA := (fnA Try.prog Try.f132 1 []).getD ⟨0, .skip, [], []⟩
def s_rTruth : Sp := spT []
theorem s_rTruth_sound : s_rTruth.sound Try.prog := spT_sound fun e he => by cases he
set_option maxRecDepth 100000 in
theorem t_rTruth (b : Bool) : a_rTruth.start s_rTruth 400 [.c (.bool b)] =
(VC.br (b)
 (VC.ret (some (RR.c (Rc.d (D.int IntKind.i64 (1 : Int))))))
 (VC.ret (some (RR.c (Rc.d (D.int IntKind.i64 (0 : Int))))))) := by kernel_rfl
theorem c_rTruth_good : c_rTruth.fe.Good Try.prog := by
  refine FT.good c_rTruth ⟨Try.f132, by kernel_rfl, by decide +kernel, by kernel_rfl⟩ (fun b => by first | rfl | simp [c_rTruth, rrRef, rplaces, Sta.fresh]) fun b hp => ?_
  refine acalls_le s_rTruth_sound (fn := Try.f132) (a := a_rTruth) (nargs := 1) (tbl := []) (by kernel_rfl) (by kernel_rfl) rfl (m := 400) ?_
  show VC.holds _ _ _ (a_rTruth.start s_rTruth 400 [.c (.bool b)])
  rw [t_rTruth]
  try simp only [asRows_sl, asInt_int, asBool_bool, asStr_str, listOf_rowsOn, List.drop_zero, Prg.eta, Sta.eta, rowsOn_length, getD_drop, Nat.reduceAdd, rd_int, rd_PMem_name, rd_PMem_secret, rd_PMem_n, rd_PLabel_name, rd_PLabel_at_, rd_Ins_kind, rd_Ins_op, rd_Ins_d, rd_Ins_aR, rd_Ins_aN, rd_Ins_bR, rd_Ins_bN, rd_Ins_name, rd_Ins_target, rd_Ent_pc, rd_Ent_val, rd_Ent_addr, rd_Ent_fro, rd_Ent_next, rd_Ent_done, rd_Ent_known, rd_Ent_fault, rd_Place_reg, rd_Place_n, rd_Place_secret, rd_Obs_kind, rd_Obs_at_, rd_Dir_kind, rd_Dir_n]
  try simp only [c_rTruth] at hp
  repeat' first
    | refine br_not ?_
    | refine br_dec (fun _ => ?_) (fun _ => ?_)
    | refine br_beq (fun _ => ?_) (fun _ => ?_)
    | refine br_bne (fun _ => ?_) (fun _ => ?_)
    | refine br_holds (fun _ => ?_) (fun _ => ?_)
    | refine ⟨PreOk.mk ?_ rfl, ?_⟩
    | refine ⟨idx_ok _ _ _ rfl (by omega) (by omega), ?_⟩
    | refine ⟨okSh_ok _ _ _ (fun _ => rfl) (by omega) (by omega), ?_⟩
    | refine ⟨okSh_okD _ _ _ _ (fun _ => rfl) (by omega) (by omega), ?_⟩
    | refine ⟨aload_ok _ _ rfl (fun _ => rfl) (by omega) (by omega), ?_⟩
    | refine ⟨aload_okD _ _ _ rfl (fun _ => rfl) (by omega) (by omega), ?_⟩
    | refine ⟨astore_ok (by assumption) rfl (by omega) (by omega) (by decide), ?_⟩
    | refine ⟨app_ok (by assumption) rfl rfl (by simp only [List.length_cons, List.length_nil]; omega), ?_⟩
    | refine need_holds ?_ fun _ => ?_
    | refine all_holds fun y hy => ?_
    | refine ret_eq ?_
  · rename_i h; subst h; rfl
  · rename_i h; subst h; rfl
theorem mask_truth {w : Int} (h : okW w) (b : Bool) : maskS w (truthS b) = truthS b := by
  have h1 : (2 : Int) ≤ 2 ^ w.toNat := by
    have : w.toNat = (w.toNat - 1) + 1 := by unfold okW at h; omega
    rw [this, Int.pow_succ]
    have : (0 : Int) < 2 ^ (w.toNat - 1) := Int.pow_pos (by decide)
    omega
  exact maskS_id h (by cases b <;> decide) (by cases b <;> simp only [truthS, if_true, Bool.false_eq_true, if_false] <;> omega)
theorem mask_bits {w a b : Int} (h : okW w) (op : BinOp) (ho : op = .and ∨ op = .or ∨ op = .xor) : maskS w (bits op .i64 (maskS w a) (maskS w b)) = bits op .i64 (maskS w a) (maskS w b) := by
  have := bits_word h (maskS_ok h a) (maskS_ok h b) op ho
  exact maskS_id h this.1 this.2
theorem u64_mask (w b : Int) : IntKind.wrap .u64 (maskS w b) = maskS w b := by
  have := maskS_range w b
  rw [IntKind.wrap_u64]; omega
theorem pow_lt_w {w b : Int} (h : okW w) (h0 : 0 ≤ b) (hb : ¬ w ≤ b) : min b.toNat 64 = b.toNat ∧ (0 : Int) < 2 ^ b.toNat ∧ (2 : Int) ^ b.toNat ≤ 65536 := by
  have h7 : okW w := h
  unfold okW at h7
  refine ⟨by omega, Int.pow_pos (by decide), ?_⟩
  have : okW (b + 1) := by unfold okW; omega
  have h13 := pow_small this
  have h14 : (b + 1).toNat = b.toNat + 1 := by omega
  rw [h14, Int.pow_succ] at h13
  omega
def c_rDo : FT (Int × Int × Int × Int) := ⟨110, fun x => [ai x.1, ai x.2.1, ai x.2.2.1, ai x.2.2.2], rdI4, fun _ => True, fun x => rib (doS x.1 x.2.1 x.2.2.1 x.2.2.2), false, fun _ => rfl⟩
noncomputable def a_rDo : FnA := (fnA Try.prog Try.f110 4 []).getD ⟨0, .skip, [], []⟩
def s_rDo : Sp := spT [c_rSize.fe, c_rMask.fe, c_rTruth.fe]
theorem s_rDo_sound : s_rDo.sound Try.prog := spT_sound fun e he => by
  simp only [List.mem_cons, List.not_mem_nil, or_false] at he
  rcases he with rfl | rfl | rfl
  · exact c_rSize_good
  · exact c_rMask_good
  · exact c_rTruth_good
set_option maxRecDepth 100000 in
theorem t_rDo (w op a b : Int) : a_rDo.start s_rDo 400 [ai w, ai op, ai a, ai b] =
(VC.need (PreOk c_rSize w [A.c (D.int IntKind.i64 w)])
(VC.br (sizeS w == (0 : Int))
 (VC.ret (some (RR.tup [Sum.inl (Rc.d (D.int IntKind.i64 (0 : Int))), Sum.inl (Rc.d (D.bool false))])))
 (VC.need (PreOk c_rMask (w, a) [A.c (D.int IntKind.i64 w), A.c (D.int IntKind.i64 a)])
 (VC.need (PreOk c_rMask (w, b) [A.c (D.int IntKind.i64 w), A.c (D.int IntKind.i64 b)])
 (VC.br (op == (1 : Int))
  (VC.need (PreOk c_rMask (w, IntKind.wrap IntKind.i64 (maskS w a + maskS w b)) [A.c (D.int IntKind.i64 w), A.c (D.int IntKind.i64 (IntKind.wrap IntKind.i64 (maskS w a + maskS w b)))])
  (VC.ret (some (RR.tup [Sum.inl (Rc.d (D.int IntKind.i64 (maskS w (IntKind.wrap IntKind.i64 (maskS w a + maskS w b))))), Sum.inl (Rc.d (D.bool true))]))))
  (VC.br (op == (2 : Int))
   (VC.need (PreOk c_rMask (w, IntKind.wrap IntKind.i64 (maskS w a - maskS w b)) [A.c (D.int IntKind.i64 w), A.c (D.int IntKind.i64 (IntKind.wrap IntKind.i64 (maskS w a - maskS w b)))])
   (VC.ret (some (RR.tup [Sum.inl (Rc.d (D.int IntKind.i64 (maskS w (IntKind.wrap IntKind.i64 (maskS w a - maskS w b))))), Sum.inl (Rc.d (D.bool true))]))))
   (VC.br (op == (3 : Int))
    (VC.ret (some (RR.tup [Sum.inl (Rc.d (D.int IntKind.i64 (bits BinOp.and IntKind.i64 (maskS w a) (maskS w b)))), Sum.inl (Rc.d (D.bool true))])))
    (VC.br (op == (4 : Int))
     (VC.ret (some (RR.tup [Sum.inl (Rc.d (D.int IntKind.i64 (bits BinOp.or IntKind.i64 (maskS w a) (maskS w b)))), Sum.inl (Rc.d (D.bool true))])))
     (VC.br (op == (5 : Int))
      (VC.ret (some (RR.tup [Sum.inl (Rc.d (D.int IntKind.i64 (bits BinOp.xor IntKind.i64 (maskS w a) (maskS w b)))), Sum.inl (Rc.d (D.bool true))])))
      (VC.br (op == (6 : Int))
       (VC.br (decide (w ≤ maskS w b))
        (VC.ret (some (RR.tup [Sum.inl (Rc.d (D.int IntKind.i64 (0 : Int))), Sum.inl (Rc.d (D.bool true))])))
        (VC.need ((0 : Int) ≤ IntKind.wrap IntKind.u64 (maskS w b))
        (VC.need (PreOk c_rMask (w, IntKind.wrap IntKind.i64 (maskS w a * (2 : Int) ^ min (Int.toNat (IntKind.wrap IntKind.u64 (maskS w b))) (64 : Nat))) [A.c (D.int IntKind.i64 w), A.c (D.int IntKind.i64 (IntKind.wrap IntKind.i64 (maskS w a * (2 : Int) ^ min (Int.toNat (IntKind.wrap IntKind.u64 (maskS w b))) (64 : Nat))))])
        (VC.ret (some (RR.tup [Sum.inl (Rc.d (D.int IntKind.i64 (maskS w (IntKind.wrap IntKind.i64 (maskS w a * (2 : Int) ^ min (Int.toNat (IntKind.wrap IntKind.u64 (maskS w b))) (64 : Nat)))))), Sum.inl (Rc.d (D.bool true))]))))))
       (VC.br (op == (7 : Int))
        (VC.br (decide (w ≤ maskS w b))
         (VC.ret (some (RR.tup [Sum.inl (Rc.d (D.int IntKind.i64 (0 : Int))), Sum.inl (Rc.d (D.bool true))])))
         (VC.need ((0 : Int) ≤ IntKind.wrap IntKind.u64 (maskS w b))
         (VC.ret (some (RR.tup [Sum.inl (Rc.d (D.int IntKind.i64 (Int.fdiv (maskS w a) ((2 : Int) ^ min (Int.toNat (IntKind.wrap IntKind.u64 (maskS w b))) (64 : Nat))))), Sum.inl (Rc.d (D.bool true))])))))
        (VC.br (op == (8 : Int))
         (VC.need (PreOk c_rMask (w, IntKind.wrap IntKind.i64 (maskS w a * maskS w b)) [A.c (D.int IntKind.i64 w), A.c (D.int IntKind.i64 (IntKind.wrap IntKind.i64 (maskS w a * maskS w b)))])
         (VC.ret (some (RR.tup [Sum.inl (Rc.d (D.int IntKind.i64 (maskS w (IntKind.wrap IntKind.i64 (maskS w a * maskS w b))))), Sum.inl (Rc.d (D.bool true))]))))
         (VC.br (op == (9 : Int))
          (VC.need (PreOk c_rTruth (decide (maskS w a < maskS w b)) [A.c (D.bool (decide (maskS w a < maskS w b)))])
          (VC.ret (some (RR.tup [Sum.inl (Rc.d (D.int IntKind.i64 (truthS (decide (maskS w a < maskS w b))))), Sum.inl (Rc.d (D.bool true))]))))
          (VC.br (op == (10 : Int))
           (VC.need (PreOk c_rTruth (maskS w a == maskS w b) [A.c (D.bool (maskS w a == maskS w b))])
           (VC.ret (some (RR.tup [Sum.inl (Rc.d (D.int IntKind.i64 (truthS (maskS w a == maskS w b)))), Sum.inl (Rc.d (D.bool true))]))))
           (VC.ret (some (RR.tup [Sum.inl (Rc.d (D.int IntKind.i64 (0 : Int))), Sum.inl (Rc.d (D.bool false))]))))))))))))))))) := by kernel_rfl
theorem c_rDo_good : c_rDo.fe.Good Try.prog := by
  refine FT.good c_rDo ⟨Try.f110, by kernel_rfl, by decide +kernel, by kernel_rfl⟩ (fun ⟨w, op, a, b⟩ => by first | rfl | simp [c_rDo, rrRef, rplaces, Sta.fresh]) fun ⟨w, op, a, b⟩ hp => ?_
  refine acalls_le s_rDo_sound (fn := Try.f110) (a := a_rDo) (nargs := 4) (tbl := []) (by kernel_rfl) (by kernel_rfl) rfl (m := 400) ?_
  show VC.holds _ _ _ (a_rDo.start s_rDo 400 [ai w, ai op, ai a, ai b])
  rw [t_rDo]
  try simp only [asRows_sl, asInt_int, asBool_bool, asStr_str, listOf_rowsOn, List.drop_zero, Prg.eta, Sta.eta, rowsOn_length, getD_drop, Nat.reduceAdd, rd_int, rd_PMem_name, rd_PMem_secret, rd_PMem_n, rd_PLabel_name, rd_PLabel_at_, rd_Ins_kind, rd_Ins_op, rd_Ins_d, rd_Ins_aR, rd_Ins_aN, rd_Ins_bR, rd_Ins_bN, rd_Ins_name, rd_Ins_target, rd_Ent_pc, rd_Ent_val, rd_Ent_addr, rd_Ent_fro, rd_Ent_next, rd_Ent_done, rd_Ent_known, rd_Ent_fault, rd_Place_reg, rd_Place_n, rd_Place_secret, rd_Obs_kind, rd_Obs_at_, rd_Dir_kind, rd_Dir_n]
  try simp only [c_rDo] at hp
  have ha := maskS_range w a
  have hb := maskS_range w b
  repeat' first
    | refine br_not ?_
    | refine br_dec (fun _ => ?_) (fun _ => ?_)
    | refine br_beq (fun _ => ?_) (fun _ => ?_)
    | refine br_bne (fun _ => ?_) (fun _ => ?_)
    | refine br_holds (fun _ => ?_) (fun _ => ?_)
    | refine ⟨PreOk.mk ?_ rfl, ?_⟩
    | refine ⟨idx_ok _ _ _ rfl (by omega) (by omega), ?_⟩
    | refine ⟨okSh_ok _ _ _ (fun _ => rfl) (by omega) (by omega), ?_⟩
    | refine ⟨okSh_okD _ _ _ _ (fun _ => rfl) (by omega) (by omega), ?_⟩
    | refine ⟨aload_ok _ _ rfl (fun _ => rfl) (by omega) (by omega), ?_⟩
    | refine ⟨aload_okD _ _ _ rfl (fun _ => rfl) (by omega) (by omega), ?_⟩
    | refine ⟨astore_ok (by assumption) rfl (by omega) (by omega) (by decide), ?_⟩
    | refine ⟨app_ok (by assumption) rfl rfl (by simp only [List.length_cons, List.length_nil]; omega), ?_⟩
    | refine need_holds ?_ fun _ => ?_
    | refine all_holds fun y hy => ?_
    | refine ret_eq ?_
  all_goals try exact trivial
  all_goals try (rw [u64_mask]; exact hb.1)
  all_goals simp only [c_rDo, rib, doS]
  · rename_i h
    have : ¬ okW w := fun h1 => by
      have := pow_small h1
      simp only [sizeS, if_pos h1] at h
      omega
    rw [if_neg this]
  all_goals have hw : okW w := Decidable.byContradiction fun h => absurd (if_neg h : sizeS w = 0) (by assumption)
  all_goals rw [if_pos hw]
  all_goals try subst op
  · simp [opS, wrap_add_mask]
  · simp [opS, wrap_sub_mask]
  · simp [opS, mask_bits hw]
  · simp [opS, mask_bits hw]
  · simp [opS, mask_bits hw]
  · simp [opS, movedS, *]
    unfold maskS; simp
  · rename_i h
    obtain ⟨h1, h2, h3⟩ := pow_lt_w hw hb.1 ‹_›
    have := mul_small ha.1 (by omega) (Int.le_of_lt h2) h3
    rw [u64_mask, h1, wrap_small _ (by omega) (by omega)]
    simp [opS, movedS, *]
  · simp [opS, movedS, *]
    unfold maskS; simp
  · rename_i h
    obtain ⟨h1, h2, h3⟩ := pow_lt_w hw hb.1 ‹_›
    rw [u64_mask, h1, Int.fdiv_eq_ediv_of_nonneg _ (Int.le_of_lt h2)]
    have h4 := Int.ediv_nonneg ha.1 (Int.le_of_lt h2)
    have h5 := Int.ediv_le_self (2 ^ (maskS w b).toNat) ha.1
    have h6 := (maskS_ok hw a).2
    simp [opS, movedS, *]
    exact (maskS_id hw h4 (by omega)).symm
  · simp [opS, wrap_mul_mask]
  · simp [opS, mask_truth hw]
  · simp [opS, mask_truth hw]
  · simp [opS, *]
end Go.Proofs.Ytclabjihjopclaa.Ax
