/- The signs of a line, by the document. -/
import Derived.Test.YtmhfhobaicklmaaL2
namespace Go.Proofs.Ytmhfhobaicklmaa.Ax
open Go.RowKit
set_option linter.unusedVariables false
set_option linter.unusedSimpArgs false
def c_rSigns : FT (ByteArray × Unit) := ⟨56, fun x => [at_ x.1], rdT1, fun x => x.1.size ≤ 1000000, fun x => rR (runesS x.1), true, fun x => by simp [at_, rdT1]⟩
noncomputable def a_rSigns : FnA := (fnA Try.prog Try.f56 1 [(3, [3, 7, 1000003000000900001001])]).getD ⟨0, .skip, [], []⟩
def s_rSigns : Sp := spT []
theorem s_rSigns_sound : s_rSigns.sound Try.prog := spT_sound fun e he => by cases he
set_option maxRecDepth 100000 in
theorem t_rSigns (s : ByteArray) : a_rSigns.start s_rSigns 400 [at_ s] =
(FnA.at_ a_rSigns 0 (F_run s (0 : Nat) (0 : Nat) [])) := by kernel_rfl
set_option maxRecDepth 100000 in
theorem t_rSig0 (s : ByteArray) (i n : Nat) (R : List (List D)) : a_rSigns.round s_rSigns 400 0 (F_run s i n R) =
(VC.br (decide (i < ByteArray.size s))
 (VC.need ((List.all [[D.int IntKind.i32 (↑(Utf8.decode s i).fst : Int)]] fun r ↦ List.length r == (1 : Nat)) = true ∧ (List.all R fun r ↦ List.length r == (1 : Nat)) = true ∧ (List.length R + List.length [[D.int IntKind.i32 (↑(Utf8.decode s i).fst : Int)]] + (100 : Nat)) * (5 : Nat) ≤ (70368744177664 : Nat))
 (FnA.at_ a_rSigns 0 (F_run s (i + (Utf8.decode s i).snd) (List.length R + List.length [[D.int IntKind.i32 (↑(Utf8.decode s i).fst : Int)]]) (R ++ [[D.int IntKind.i32 (↑(Utf8.decode s i).fst : Int)]]))))
 (VC.ret (some (RR.c (Rc.new (1 : Nat) R))))) := by kernel_rfl
theorem l_rSig0 (s : ByteArray) (fin : List Rn) (hf : fin.length ≤ 1000000) : ∀ i_ : Nat × Nat × List (List D), (fun (v : Nat × Nat × List (List D)) => ∃ acc : List Rn, OnL v.2.2 v.2.1 acc ∧ acc ++ runesAt s v.1 = fin) i_ → (a_rSigns.at_ 0 ((fun (v : Nat × Nat × List (List D)) => F_run s v.1 v.2.1 v.2.2) i_)).holds s_rSigns.cx a_rSigns.rs (fun r => r.data.le (rR fin)) := by
  refine loop_rule (a := a_rSigns) (j := 0) (m := 400) s_rSigns_sound (fun (v : Nat × Nat × List (List D)) => F_run s v.1 v.2.1 v.2.2) (fun (v : Nat × Nat × List (List D)) => ∃ acc : List Rn, OnL v.2.2 v.2.1 acc ∧ acc ++ runesAt s v.1 = fin) (fun (v : Nat × Nat × List (List D)) => s.size - v.1) ?_
  rintro ⟨i, n, R⟩ h_inv ih
  try dsimp only at h_inv
  replace ih := fun (v0 : Nat) (v1 : Nat) (v2 : List (List D)) => ih (v0, v1, v2)
  try dsimp only at ih
  show VC.holds _ _ _ (a_rSigns.round s_rSigns 400 0 (F_run s i n R))
  rw [t_rSig0]
  try simp only [asRows_sl, asInt_int, asBool_bool, asStr_str, listOf_rowsOn, List.drop_zero, Prg.eta, Sta.eta, rowsOn_length, getD_drop, Nat.reduceAdd, rd_int, rd_PMem_name, rd_PMem_secret, rd_PMem_n, rd_PLabel_name, rd_PLabel_at_, rd_Ins_kind, rd_Ins_op, rd_Ins_d, rd_Ins_aR, rd_Ins_aN, rd_Ins_bR, rd_Ins_bN, rd_Ins_name, rd_Ins_target, rd_Ent_pc, rd_Ent_val, rd_Ent_addr, rd_Ent_fro, rd_Ent_next, rd_Ent_done, rd_Ent_known, rd_Ent_fault, rd_Place_reg, rd_Place_n, rd_Place_secret, rd_Obs_kind, rd_Obs_at_, rd_Dir_kind, rd_Dir_n, rd_Rn_v, rd_Tok_kind, rd_Tok_text, rd_Tok_n, rd_Tok_at_]
  obtain ⟨acc, h1, h2⟩ := h_inv
  have hl : acc.length ≤ fin.length := by rw [← h2, List.length_append]; omega
  have hp := decode_pos s i
  refine br_dec (fun hd => ?_) (fun hd => ret_leD ?_)
  · refine ⟨app_ok h1 rfl rfl (by simp only [List.length_cons, List.length_nil]; omega), ih _ _ _ ⟨acc ++ [⟨((Utf8.decode s i).1 : Int)⟩], h1.snoc (⟨((Utf8.decode s i).1 : Int)⟩ : Rn), ?_⟩ (by omega)⟩
    rw [List.append_assoc, ← h2, runesAt_lt s i hd]; rfl
  · rw [runesAt_ge s i (by omega), List.append_nil] at h2
    rw [h1.1, h2]; exact RR.le_refl _
theorem c_rSigns_good : c_rSigns.fe.Good Try.prog := by
  refine FT.good c_rSigns ⟨Try.f56, by kernel_rfl, by decide +kernel, by kernel_rfl⟩ (fun ⟨s, u⟩ => by first | rfl | simp [c_rSigns, rrRef, rTok3, rLine, rR, riib3, ri, rb, rib, Sta.fresh]) fun ⟨s, u⟩ hp => ?_
  refine acalls_leD s_rSigns_sound (fn := Try.f56) (a := a_rSigns) (nargs := 1) (tbl := [(3, [3, 7, 1000003000000900001001])]) (by kernel_rfl) (by kernel_rfl) rfl (m := 400) ?_
  show VC.holds _ _ _ (a_rSigns.start s_rSigns 400 [at_ s])
  rw [t_rSigns]
  try simp only [asRows_sl, asInt_int, asBool_bool, asStr_str, listOf_rowsOn, List.drop_zero, Prg.eta, Sta.eta, rowsOn_length, getD_drop, Nat.reduceAdd, rd_int, rd_PMem_name, rd_PMem_secret, rd_PMem_n, rd_PLabel_name, rd_PLabel_at_, rd_Ins_kind, rd_Ins_op, rd_Ins_d, rd_Ins_aR, rd_Ins_aN, rd_Ins_bR, rd_Ins_bN, rd_Ins_name, rd_Ins_target, rd_Ent_pc, rd_Ent_val, rd_Ent_addr, rd_Ent_fro, rd_Ent_next, rd_Ent_done, rd_Ent_known, rd_Ent_fault, rd_Place_reg, rd_Place_n, rd_Place_secret, rd_Obs_kind, rd_Obs_at_, rd_Dir_kind, rd_Dir_n, rd_Rn_v, rd_Tok_kind, rd_Tok_text, rd_Tok_n, rd_Tok_at_]
  try simp only [c_rSigns] at hp
  have hs : s.size ≤ 1000000 := hp
  have := runesS_len s
  exact l_rSig0 s (runesS s) (by omega) (0, _, _) ⟨[], OnL.nil, rfl⟩
noncomputable def v_rSigns : ByteArray × Unit → List Rn := fun x => runesS x.1
noncomputable def sh_rSigns : List Rn → RR := fun l => rR l
theorem e_rSigns (x : ByteArray × Unit) : sh_rSigns (v_rSigns x) = c_rSigns.ans x := rfl
def c_rLet : FT Int := ⟨57, fun x => [ar x], rdR1, fun _ => True, fun x => rb (isLet x), false, fun x => rfl⟩
noncomputable def a_rLet : FnA := (fnA Try.prog Try.f57 1 []).getD ⟨0, .skip, [], []⟩
def s_rLet : Sp := spT []
theorem s_rLet_sound : s_rLet.sound Try.prog := spT_sound fun e he => by cases he
set_option maxRecDepth 100000 in
theorem t_rLet (n : Int) : a_rLet.start s_rLet 400 [ar n] =
(VC.br (decide ((97 : Int) ≤ n))
 (VC.ret (some (RR.c (Rc.d (D.bool (decide (n ≤ (122 : Int))))))))
 (VC.ret (some (RR.c (Rc.d (D.bool false)))))) := by kernel_rfl
theorem c_rLet_good : c_rLet.fe.Good Try.prog := by
  refine FT.good c_rLet ⟨Try.f57, by kernel_rfl, by decide +kernel, by kernel_rfl⟩ (fun n => by first | rfl | simp [c_rLet, rrRef, rTok3, rLine, rR, riib3, ri, rb, rib, Sta.fresh]) fun n hp => ?_
  refine acalls_le s_rLet_sound (fn := Try.f57) (a := a_rLet) (nargs := 1) (tbl := []) (by kernel_rfl) (by kernel_rfl) rfl (m := 400) ?_
  show VC.holds _ _ _ (a_rLet.start s_rLet 400 [ar n])
  rw [t_rLet]
  try simp only [asRows_sl, asInt_int, asBool_bool, asStr_str, listOf_rowsOn, List.drop_zero, Prg.eta, Sta.eta, rowsOn_length, getD_drop, Nat.reduceAdd, rd_int, rd_PMem_name, rd_PMem_secret, rd_PMem_n, rd_PLabel_name, rd_PLabel_at_, rd_Ins_kind, rd_Ins_op, rd_Ins_d, rd_Ins_aR, rd_Ins_aN, rd_Ins_bR, rd_Ins_bN, rd_Ins_name, rd_Ins_target, rd_Ent_pc, rd_Ent_val, rd_Ent_addr, rd_Ent_fro, rd_Ent_next, rd_Ent_done, rd_Ent_known, rd_Ent_fault, rd_Place_reg, rd_Place_n, rd_Place_secret, rd_Obs_kind, rd_Obs_at_, rd_Dir_kind, rd_Dir_n, rd_Rn_v, rd_Tok_kind, rd_Tok_text, rd_Tok_n, rd_Tok_at_]
  try simp only [c_rLet] at hp
  have e : c_rLet.ans n = rb (isLet n) := rfl
  rw [e]
  unfold isLet
  repeat' first
    | refine br_not ?_
    | refine br_dec (fun _ => ?_) (fun _ => ?_)
    | refine br_beq (fun _ => ?_) (fun _ => ?_)
    | refine br_bne (fun _ => ?_) (fun _ => ?_)
    | refine br_holds (fun _ => ?_) (fun _ => ?_)
    | refine ⟨PreOk.mk ?_ rfl, ?_⟩
    | refine ⟨idx_ok _ _ _ rfl (by omega) (by omega), ?_⟩
    | refine ⟨okSh_ok _ _ _ (fun _ => rfl) (by omega) (by omega), ?_⟩
    | refine ⟨okSh_okD _ _ _ _ (fun _ => rfl) (by omega) (by omega), ?_⟩
    | refine ⟨aload_ok _ _ rfl (fun _ => rfl) (by omega) (by omega), ?_⟩
    | refine ⟨aload_okD _ _ _ rfl (fun _ => rfl) (by omega) (by omega), ?_⟩
    | refine ⟨astore_ok (by assumption) rfl (by omega) (by omega) (by decide), ?_⟩
    | refine ⟨app_ok (by assumption) rfl rfl (by simp only [List.length_cons, List.length_nil]; omega), ?_⟩
    | refine need_holds ?_ fun _ => ?_
    | refine all_holds fun y hy => ?_
    | refine ret_le ?_
  · rename_i h; rw [decide_eq_true h, Bool.true_and]; exact RR.le_refl _
  · rename_i h; rw [decide_eq_false h, Bool.false_and]; exact RR.le_refl _
noncomputable def v_rLet : Int → Bool := fun x => isLet x
noncomputable def sh_rLet : Bool → RR := fun b => rb b
theorem e_rLet (x : Int) : sh_rLet (v_rLet x) = c_rLet.ans x := rfl
def c_rDig : FT Int := ⟨58, fun x => [ar x], rdR1, fun _ => True, fun x => rb (isDig x), false, fun x => rfl⟩
noncomputable def a_rDig : FnA := (fnA Try.prog Try.f58 1 []).getD ⟨0, .skip, [], []⟩
def s_rDig : Sp := spT []
theorem s_rDig_sound : s_rDig.sound Try.prog := spT_sound fun e he => by cases he
set_option maxRecDepth 100000 in
theorem t_rDig (n : Int) : a_rDig.start s_rDig 400 [ar n] =
(VC.br (decide ((48 : Int) ≤ n))
 (VC.ret (some (RR.c (Rc.d (D.bool (decide (n ≤ (57 : Int))))))))
 (VC.ret (some (RR.c (Rc.d (D.bool false)))))) := by kernel_rfl
theorem c_rDig_good : c_rDig.fe.Good Try.prog := by
  refine FT.good c_rDig ⟨Try.f58, by kernel_rfl, by decide +kernel, by kernel_rfl⟩ (fun n => by first | rfl | simp [c_rDig, rrRef, rTok3, rLine, rR, riib3, ri, rb, rib, Sta.fresh]) fun n hp => ?_
  refine acalls_le s_rDig_sound (fn := Try.f58) (a := a_rDig) (nargs := 1) (tbl := []) (by kernel_rfl) (by kernel_rfl) rfl (m := 400) ?_
  show VC.holds _ _ _ (a_rDig.start s_rDig 400 [ar n])
  rw [t_rDig]
  try simp only [asRows_sl, asInt_int, asBool_bool, asStr_str, listOf_rowsOn, List.drop_zero, Prg.eta, Sta.eta, rowsOn_length, getD_drop, Nat.reduceAdd, rd_int, rd_PMem_name, rd_PMem_secret, rd_PMem_n, rd_PLabel_name, rd_PLabel_at_, rd_Ins_kind, rd_Ins_op, rd_Ins_d, rd_Ins_aR, rd_Ins_aN, rd_Ins_bR, rd_Ins_bN, rd_Ins_name, rd_Ins_target, rd_Ent_pc, rd_Ent_val, rd_Ent_addr, rd_Ent_fro, rd_Ent_next, rd_Ent_done, rd_Ent_known, rd_Ent_fault, rd_Place_reg, rd_Place_n, rd_Place_secret, rd_Obs_kind, rd_Obs_at_, rd_Dir_kind, rd_Dir_n, rd_Rn_v, rd_Tok_kind, rd_Tok_text, rd_Tok_n, rd_Tok_at_]
  try simp only [c_rDig] at hp
  have e : c_rDig.ans n = rb (isDig n) := rfl
  rw [e]
  unfold isDig
  repeat' first
    | refine br_not ?_
    | refine br_dec (fun _ => ?_) (fun _ => ?_)
    | refine br_beq (fun _ => ?_) (fun _ => ?_)
    | refine br_bne (fun _ => ?_) (fun _ => ?_)
    | refine br_holds (fun _ => ?_) (fun _ => ?_)
    | refine ⟨PreOk.mk ?_ rfl, ?_⟩
    | refine ⟨idx_ok _ _ _ rfl (by omega) (by omega), ?_⟩
    | refine ⟨okSh_ok _ _ _ (fun _ => rfl) (by omega) (by omega), ?_⟩
    | refine ⟨okSh_okD _ _ _ _ (fun _ => rfl) (by omega) (by omega), ?_⟩
    | refine ⟨aload_ok _ _ rfl (fun _ => rfl) (by omega) (by omega), ?_⟩
    | refine ⟨aload_okD _ _ _ rfl (fun _ => rfl) (by omega) (by omega), ?_⟩
    | refine ⟨astore_ok (by assumption) rfl (by omega) (by omega) (by decide), ?_⟩
    | refine ⟨app_ok (by assumption) rfl rfl (by simp only [List.length_cons, List.length_nil]; omega), ?_⟩
    | refine need_holds ?_ fun _ => ?_
    | refine all_holds fun y hy => ?_
    | refine ret_le ?_
  · rename_i h; rw [decide_eq_true h, Bool.true_and]; exact RR.le_refl _
  · rename_i h; rw [decide_eq_false h, Bool.false_and]; exact RR.le_refl _
noncomputable def v_rDig : Int → Bool := fun x => isDig x
noncomputable def sh_rDig : Bool → RR := fun b => rb b
theorem e_rDig (x : Int) : sh_rDig (v_rDig x) = c_rDig.ans x := rfl
def numR (l : List Rn) (a : Int) (most : Nat) : Int × Int × Bool := match numL (l.drop a.toNat) most with
  | none => (a, 0, false)
  | some (n, k) => if aloneL (l.drop (a + k).toNat) = true then (a + k, n, true) else (a + k, 0, false)
def c_rNum : FT (List Rn × Int × Nat) := ⟨59, fun x => [aR x.1, ai x.2.1, ai x.2.2], rdRI2, fun x => x.1.length ≤ 1000000 ∧ 0 ≤ x.2.1 ∧ x.2.1 ≤ 1000000 ∧ 1 ≤ x.2.2 ∧ x.2.2 ≤ 9, fun x => riib3 (numR x.1 x.2.1 x.2.2), false, fun x => by simp [aR, ai, rdRI2]⟩
noncomputable def a_rNum : FnA := (fnA Try.prog Try.f59 3 [(2, [0, 1, 2, 9, 10]), (1000000012, [0, 1, 9, 10])]).getD ⟨0, .skip, [], []⟩
noncomputable def s_rNum : Sp := spT [c_rDig.gfe v_rDig sh_rDig e_rDig, c_rLet.gfe v_rLet sh_rLet e_rLet]
theorem s_rNum_sound : s_rNum.sound Try.prog := spT_sound fun e he => by
  simp only [List.mem_cons, List.not_mem_nil, or_false] at he
  rcases he with rfl | rfl
  · exact FT.gfe_good c_rDig_good
  · exact FT.gfe_good c_rLet_good
def F_rnm (l : List Rn) (m : Nat) (i k n : Int) : St := ⟨mkS 80 [(0, vr (rowsOn l)), (1, vi i), (2, vi m), (9, vi k), (10, vi n)], []⟩
set_option maxRecDepth 100000 in
theorem t_rNum (l : List Rn) (i : Int) (m : Nat) : a_rNum.start s_rNum 400 [aR l, ai i, ai m] =
(FnA.at_ a_rNum 0 (F_rnm l m i i (0 : Int))) := by kernel_rfl
def F_rnx (l : List Rn) (i k n : Int) : St := ⟨mkS 80 [(0, vr (rowsOn l)), (1, vi i), (9, vi k), (10, vi n)], []⟩
set_option maxRecDepth 100000 in
theorem t_rNum0 (l : List Rn) (m : Nat) (i k n : Int) : a_rNum.round s_rNum 400 0 (F_rnm l m i k n) =
(VC.br (decide (k < (↑(List.length (rowsOn l)) : Int)))
 (VC.need ((0 : Int) ≤ k ∧ k < (↑(List.length (rowsOn l)) : Int) ∧ List.length (rowAt (rowsOn l) (Int.toNat k)) = (1 : Nat))
 (VC.need (okSh [Kd.int IntKind.i32] (rowAt (rowsOn l) (Int.toNat k)))
 (VC.need (PreOk c_rDig (asInt (List.getD (rowAt (rowsOn l) (Int.toNat k)) (0 : Nat) D.nilp)) [A.c (D.int IntKind.i32 (asInt (List.getD (rowAt (rowsOn l) (Int.toNat k)) (0 : Nat) D.nilp)))])
 (VC.all (v_rDig (asInt (List.getD (rowAt (rowsOn l) (Int.toNat k)) (0 : Nat) D.nilp))) fun (y5 : Bool) =>
 (VC.br (y5)
  (VC.br (decide (IntKind.wrap IntKind.i64 (k - i) < (↑m : Int)))
   (VC.br (decide (i < k))
    (VC.need ((0 : Int) ≤ i ∧ i < (↑(List.length (rowsOn l)) : Int) ∧ List.length (rowAt (rowsOn l) (Int.toNat i)) = (1 : Nat))
    (VC.need (okSh [Kd.int IntKind.i32] (rowAt (rowsOn l) (Int.toNat i)))
    (VC.br (!asInt (List.getD (rowAt (rowsOn l) (Int.toNat i)) (0 : Nat) D.nilp) == (48 : Int))
     (VC.need ((0 : Int) ≤ k ∧ k < (↑(List.length (rowsOn l)) : Int) ∧ List.length (rowAt (rowsOn l) (Int.toNat k)) = (1 : Nat))
     (VC.need (okSh [Kd.int IntKind.i32] (rowAt (rowsOn l) (Int.toNat k)))
     (FnA.at_ a_rNum 0 (F_rnm l m i (IntKind.wrap IntKind.i64 (k + (1 : Int))) (IntKind.wrap IntKind.i64 (IntKind.wrap IntKind.i64 ((10 : Int) * n) + IntKind.wrap IntKind.i64 (IntKind.wrap IntKind.i32 (asInt (List.getD (rowAt (rowsOn l) (Int.toNat k)) (0 : Nat) D.nilp) - (48 : Int)))))))))
     (FnA.at_ a_rNum 1 (F_rnx l i k n)))))
    (VC.need ((0 : Int) ≤ k ∧ k < (↑(List.length (rowsOn l)) : Int) ∧ List.length (rowAt (rowsOn l) (Int.toNat k)) = (1 : Nat))
    (VC.need (okSh [Kd.int IntKind.i32] (rowAt (rowsOn l) (Int.toNat k)))
    (FnA.at_ a_rNum 0 (F_rnm l m i (IntKind.wrap IntKind.i64 (k + (1 : Int))) (IntKind.wrap IntKind.i64 (IntKind.wrap IntKind.i64 ((10 : Int) * n) + IntKind.wrap IntKind.i64 (IntKind.wrap IntKind.i32 (asInt (List.getD (rowAt (rowsOn l) (Int.toNat k)) (0 : Nat) D.nilp) - (48 : Int))))))))))
   (FnA.at_ a_rNum 1 (F_rnx l i k n)))
  (FnA.at_ a_rNum 1 (F_rnx l i k n)))))))
 (FnA.at_ a_rNum 1 (F_rnx l i k n))) := by kernel_rfl
set_option maxRecDepth 100000 in
theorem t_rNum1 (l : List Rn) (i k n : Int) : a_rNum.round s_rNum 400 1 (F_rnx l i k n) =
(VC.br (k == i)
 (VC.ret (some (RR.tup [Sum.inl (Rc.d (D.int IntKind.i64 k)), Sum.inl (Rc.d (D.int IntKind.i64 (0 : Int))), Sum.inl (Rc.d (D.bool false))])))
 (VC.br (decide (k < (↑(List.length (rowsOn l)) : Int)))
  (VC.need ((0 : Int) ≤ k ∧ k < (↑(List.length (rowsOn l)) : Int) ∧ List.length (rowAt (rowsOn l) (Int.toNat k)) = (1 : Nat))
  (VC.need (okSh [Kd.int IntKind.i32] (rowAt (rowsOn l) (Int.toNat k)))
  (VC.need (PreOk c_rDig (asInt (List.getD (rowAt (rowsOn l) (Int.toNat k)) (0 : Nat) D.nilp)) [A.c (D.int IntKind.i32 (asInt (List.getD (rowAt (rowsOn l) (Int.toNat k)) (0 : Nat) D.nilp)))])
  (VC.all (v_rDig (asInt (List.getD (rowAt (rowsOn l) (Int.toNat k)) (0 : Nat) D.nilp))) fun (y4 : Bool) =>
  (VC.br (y4)
   (VC.ret (some (RR.tup [Sum.inl (Rc.d (D.int IntKind.i64 k)), Sum.inl (Rc.d (D.int IntKind.i64 (0 : Int))), Sum.inl (Rc.d (D.bool false))])))
   (VC.need ((0 : Int) ≤ k ∧ k < (↑(List.length (rowsOn l)) : Int) ∧ List.length (rowAt (rowsOn l) (Int.toNat k)) = (1 : Nat))
   (VC.need (okSh [Kd.int IntKind.i32] (rowAt (rowsOn l) (Int.toNat k)))
   (VC.need (PreOk c_rLet (asInt (List.getD (rowAt (rowsOn l) (Int.toNat k)) (0 : Nat) D.nilp)) [A.c (D.int IntKind.i32 (asInt (List.getD (rowAt (rowsOn l) (Int.toNat k)) (0 : Nat) D.nilp)))])
   (VC.all (v_rLet (asInt (List.getD (rowAt (rowsOn l) (Int.toNat k)) (0 : Nat) D.nilp))) fun (y5 : Bool) =>
   (VC.br (y5)
    (VC.ret (some (RR.tup [Sum.inl (Rc.d (D.int IntKind.i64 k)), Sum.inl (Rc.d (D.int IntKind.i64 (0 : Int))), Sum.inl (Rc.d (D.bool false))])))
    (VC.ret (some (RR.tup [Sum.inl (Rc.d (D.int IntKind.i64 k)), Sum.inl (Rc.d (D.int IntKind.i64 n)), Sum.inl (Rc.d (D.bool true))])))))))))))))
  (VC.ret (some (RR.tup [Sum.inl (Rc.d (D.int IntKind.i64 k)), Sum.inl (Rc.d (D.int IntKind.i64 n)), Sum.inl (Rc.d (D.bool true))]))))) := by kernel_rfl
def rfin (l : List Rn) (i k n : Int) : Int × Int × Bool := if k = i then (k, 0, false) else if aloneL (l.drop k.toNat) = true then (k, n, true) else (k, 0, false)
theorem at_rnx (l : List Rn) (i k n : Int) (h0 : 0 ≤ k) : (a_rNum.at_ 1 (F_rnx l i k n)).holds s_rNum.cx a_rNum.rs (fun r => r.le (riib3 (rfin l i k n))) := by
  refine at_of_round s_rNum_sound (m := 400) ?_
  rw [t_rNum1]
  try simp only [asRows_sl, asInt_int, asBool_bool, asStr_str, listOf_rowsOn, List.drop_zero, Prg.eta, Sta.eta, rowsOn_length, getD_drop, Nat.reduceAdd, rd_int, rd_PMem_name, rd_PMem_secret, rd_PMem_n, rd_PLabel_name, rd_PLabel_at_, rd_Ins_kind, rd_Ins_op, rd_Ins_d, rd_Ins_aR, rd_Ins_aN, rd_Ins_bR, rd_Ins_bN, rd_Ins_name, rd_Ins_target, rd_Ent_pc, rd_Ent_val, rd_Ent_addr, rd_Ent_fro, rd_Ent_next, rd_Ent_done, rd_Ent_known, rd_Ent_fault, rd_Place_reg, rd_Place_n, rd_Place_secret, rd_Obs_kind, rd_Obs_at_, rd_Dir_kind, rd_Dir_n, rd_Rn_v, rd_Tok_kind, rd_Tok_text, rd_Tok_n, rd_Tok_at_]
  unfold rfin
  refine br_beq (fun h => ?_) (fun h => br_dec (fun hd => ?_) (fun hd => ?_))
  · rw [if_pos h]; exact ret_le (RR.le_refl _)
  · rw [if_neg h, drop_rn l k h0 hd]
    have ea : aloneL (rd l k :: l.drop (k + 1).toNat) = !(isLet (rd l k).v || isDig (rd l k).v) := rfl
    rw [ea]
    refine ⟨rn_ok l k h0 hd, rn_sh l k h0 hd, PreOk.mk trivial rfl, all_holds fun y hy => br_holds (fun h1 => ?_) (fun h1 => ?_)⟩
    · replace hy : y = isDig (rd l k).v := hy
      rw [← hy, h1, Bool.or_true, if_neg (by decide)]; exact ret_le (RR.le_refl _)
    · replace hy : y = isDig (rd l k).v := hy
      rw [← hy, h1, Bool.or_false]
      refine ⟨rn_ok l k h0 hd, rn_sh l k h0 hd, PreOk.mk trivial rfl, all_holds fun z hz => br_holds (fun h2 => ?_) (fun h2 => ?_)⟩
      · replace hz : z = isLet (rd l k).v := hz
        rw [← hz, h2, if_neg (by decide)]; exact ret_le (RR.le_refl _)
      · replace hz : z = isLet (rd l k).v := hz
        rw [← hz, h2, if_pos (by decide)]; exact ret_le (RR.le_refl _)
  · rw [if_neg h, drop_end l k (by omega), if_pos (show aloneL [] = true from rfl)]; exact ret_le (RR.le_refl _)
/-- Amid a number: so many digits are read. -/
def NumI (l : List Rn) (m : Nat) (i k n : Int) : Prop := ∃ d : Nat, k = i + d ∧ d ≤ m ∧ 0 ≤ n ∧ n < (10 : Int) ^ d ∧ (d = 0 → n = 0) ∧ (0 < d → i < l.length ∧ isDig (rd l i).v = true ∧ ((rd l i).v = 48 → d = 1 ∧ n = 0) ∧
  ((rd l i).v ≠ 48 → (digF (l.drop i.toNat) m 0).1 = (digF (l.drop k.toNat) (m - d) n).1 ∧ i + (digF (l.drop i.toNat) m 0).2 = k + (digF (l.drop k.toNat) (m - d) n).2))
theorem numI_out {l : List Rn} {m : Nat} {i k n : Int} (hi : 0 ≤ i) (hm : 1 ≤ m) (h : NumI l m i k n) (hx : (l.length : Int) ≤ k ∨ (k < l.length ∧ (isDig (rd l k).v = false ∨ (m : Int) ≤ k - i ∨ (i < k ∧ (rd l i).v = 48)))) : rfin l i k n = numR l i m := by
  obtain ⟨d, e, d1, n0, n1, z0, z1⟩ := h
  unfold rfin numR
  cases d with
  | zero =>
    have ek : k = i := by omega
    subst ek
    rw [if_pos rfl]
    have e : numL (l.drop k.toNat) m = none := by
      rcases hx with h | ⟨h, h1⟩
      · rw [drop_end l k h]; rfl
      · rw [drop_rn l k hi h]
        unfold numL
        dsimp only
        rw [if_neg]
        rcases h1 with h1 | h1 | h1
        · rw [h1]; simp
        · omega
        · omega
    rw [e]
  | succ d =>
    obtain ⟨q1, q2, q3, q4⟩ := z1 (by omega)
    rw [if_neg (by omega)]
    by_cases h48 : (rd l i).v = 48
    · obtain ⟨rfl, rfl⟩ : d = 0 ∧ n = 0 := by have := q3 h48; omega
      have e2 : numL (l.drop i.toNat) m = some (0, 1) := by
        rw [drop_rn l i hi q1]
        unfold numL
        dsimp only
        rw [if_pos q2, if_pos h48]
      rw [e2, e]
    · obtain ⟨w1, w2⟩ := q4 h48
      have es : digF (l.drop k.toNat) (m - (d + 1)) n = (n, 0) := by
        rcases hx with h | ⟨h, h1⟩
        · rw [drop_end l k h]; cases m - (d + 1) <;> rfl
        · rw [drop_rn l k (by omega) h]
          rcases h1 with h1 | h1 | h1
          · exact digF_stop (by rw [h1]; simp) _ _ _
          · rw [show m - (d + 1) = 0 by omega]; rfl
          · exact absurd h1.2 h48
      rw [es] at w1 w2
      have e2 : numL (l.drop i.toNat) m = some ((digF (l.drop i.toNat) m 0).1, (digF (l.drop i.toNat) m 0).2) := by
        rw [drop_rn l i hi q1]
        unfold numL
        dsimp only
        rw [if_pos q2, if_neg h48]
      rw [e2]
      dsimp only at w1 w2 ⊢
      rw [w1, show i + ((digF (l.drop i.toNat) m 0).2 : Int) = k by omega]
theorem numI_on {l : List Rn} {m : Nat} {i k n : Int} (hi : 0 ≤ i) (h : NumI l m i k n) (hk : k < l.length) (hd : isDig (rd l k).v = true) (hm : k - i < m) (hz : ¬ (i < k ∧ (rd l i).v = 48)) : NumI l m i (k + 1) (10 * n + ((rd l k).v - 48)) := by
  obtain ⟨d, e, d1, n0, n1, z0, z1⟩ := h
  have h2 := isDig_iff.1 hd
  refine ⟨d + 1, by omega, by omega, by omega, by rw [Int.pow_succ]; omega, fun h => by omega, fun _ => ?_⟩
  obtain ⟨q, hq⟩ : ∃ q, m - d = q + 1 := ⟨m - d - 1, by omega⟩
  have eq : m - (d + 1) = q := by omega
  have st : digF (l.drop k.toNat) (m - d) n = ((digF (l.drop (k + 1).toNat) q (10 * n + ((rd l k).v - 48))).1, (digF (l.drop (k + 1).toNat) q (10 * n + ((rd l k).v - 48))).2 + 1) := by
    rw [hq, drop_rn l k (by omega) hk]
    rw [digF, if_pos hd]
  cases d with
  | zero =>
    have ek : k = i := by omega
    subst ek
    have en := z0 rfl
    subst en
    refine ⟨hk, hd, fun h48 => ⟨rfl, by omega⟩, fun h48 => ?_⟩
    rw [eq]
    rw [Nat.sub_zero] at st
    rw [st]
    exact ⟨rfl, by dsimp only; omega⟩
  | succ d =>
    obtain ⟨q1, q2, q3, q4⟩ := z1 (by omega)
    refine ⟨q1, q2, fun h48 => absurd ⟨by omega, h48⟩ hz, fun h48 => ?_⟩
    obtain ⟨w1, w2⟩ := q4 h48
    rw [eq]
    rw [st] at w1 w2
    exact ⟨w1, by dsimp only at w2; omega⟩
theorem l_rNum0 (l : List Rn) (m : Nat) (i : Int) (hl : l.length ≤ 1000000) (hi : 0 ≤ i) (hi2 : i ≤ 1000000) (hm1 : 1 ≤ m) (hm : m ≤ 9) : ∀ i_ : Int × Int, (fun (v : Int × Int) => NumI l m i v.1 v.2) i_ → (a_rNum.at_ 0 ((fun (v : Int × Int) => F_rnm l m i v.1 v.2) i_)).holds s_rNum.cx a_rNum.rs (fun r => r.le (riib3 (numR l i m))) := by
  refine loop_rule (a := a_rNum) (j := 0) (m := 400) s_rNum_sound (fun (v : Int × Int) => F_rnm l m i v.1 v.2) (fun (v : Int × Int) => NumI l m i v.1 v.2) (fun (v : Int × Int) => ((l.length : Int) - v.1).toNat) ?_
  rintro ⟨k, n⟩ h_inv ih
  try dsimp only at h_inv
  replace ih := fun (v0 : Int) (v1 : Int) => ih (v0, v1)
  try dsimp only at ih
  show VC.holds _ _ _ (a_rNum.round s_rNum 400 0 (F_rnm l m i k n))
  rw [t_rNum0]
  try simp only [asRows_sl, asInt_int, asBool_bool, asStr_str, listOf_rowsOn, List.drop_zero, Prg.eta, Sta.eta, rowsOn_length, getD_drop, Nat.reduceAdd, rd_int, rd_PMem_name, rd_PMem_secret, rd_PMem_n, rd_PLabel_name, rd_PLabel_at_, rd_Ins_kind, rd_Ins_op, rd_Ins_d, rd_Ins_aR, rd_Ins_aN, rd_Ins_bR, rd_Ins_bN, rd_Ins_name, rd_Ins_target, rd_Ent_pc, rd_Ent_val, rd_Ent_addr, rd_Ent_fro, rd_Ent_next, rd_Ent_done, rd_Ent_known, rd_Ent_fault, rd_Place_reg, rd_Place_n, rd_Place_secret, rd_Obs_kind, rd_Obs_at_, rd_Dir_kind, rd_Dir_n, rd_Rn_v, rd_Tok_kind, rd_Tok_text, rd_Tok_n, rd_Tok_at_]
  have h0 : 0 ≤ k := by obtain ⟨d, e, _⟩ := h_inv; omega
  have out : ((l.length : Int) ≤ k ∨ (k < l.length ∧ (isDig (rd l k).v = false ∨ (m : Int) ≤ k - i ∨ (i < k ∧ (rd l i).v = 48)))) → (a_rNum.at_ 1 (F_rnx l i k n)).holds s_rNum.cx a_rNum.rs fun r => r.le (riib3 (numR l i m)) := fun hx => by
    rw [← numI_out hi hm1 h_inv hx]
    exact at_rnx l i k n h0
  refine br_dec (fun hd => ?_) (fun hd => out (.inl (by omega)))
  refine ⟨rn_ok l k h0 hd, rn_sh l k h0 hd, PreOk.mk trivial rfl, all_holds fun y hy => br_holds (fun hg => ?_) (fun hg => out (.inr ⟨hd, .inl ?_⟩))⟩
  · replace hy : y = isDig (rd l k).v := hy
    have hg1 : isDig (rd l k).v = true := by rw [← hy]; exact hg
    have hg2 := isDig_iff.1 hg1
    have hb : 0 ≤ n ∧ n < 1000000000 ∧ i ≤ k ∧ k ≤ i + m := by
      obtain ⟨d, e, d1, n0, n1, _⟩ := h_inv
      have := ten_pow (k := d) (by omega)
      omega
    rw [wrap_small (k - i) (by omega) (by omega)]
    refine br_dec (fun hm2 => ?_) (fun hm2 => out (.inr ⟨hd, .inr (.inl (by omega))⟩))
    have nxt : ¬ (i < k ∧ (rd l i).v = 48) → (a_rNum.at_ 0 (F_rnm l m i (IntKind.wrap .i64 (k + 1)) (IntKind.wrap .i64 (IntKind.wrap .i64 (10 * n) + IntKind.wrap .i64 (IntKind.wrap .i32 ((rd l k).v - 48)))))).holds s_rNum.cx a_rNum.rs fun r => r.le (riib3 (numR l i m)) := fun hz => by
      rw [wrap_small32 _ (by omega) (by omega), wrap_small ((rd l k).v - 48) (by omega) (by omega), wrap_small (10 * n) (by omega) (by omega), wrap_small (10 * n + ((rd l k).v - 48)) (by omega) (by omega), wrap_small (k + 1) (by omega) (by omega)]
      exact ih _ _ (numI_on hi h_inv hd hg1 hm2 hz) (by omega)
    refine br_dec (fun hik => ?_) (fun hik => ⟨rn_ok l k h0 hd, rn_sh l k h0 hd, nxt fun q => hik q.1⟩)
    refine ⟨rn_ok l i hi (by omega), rn_sh l i hi (by omega), br_not (br_beq (fun h8 => out (.inr ⟨hd, .inr (.inr ⟨hik, h8⟩)⟩)) (fun h8 => ⟨rn_ok l k h0 hd, rn_sh l k h0 hd, nxt fun q => h8 q.2⟩))⟩
  · replace hy : y = isDig (rd l k).v := hy
    rw [← hy]; exact hg
theorem c_rNum_good : c_rNum.fe.Good Try.prog := by
  refine FT.good c_rNum ⟨Try.f59, by kernel_rfl, by decide +kernel, by kernel_rfl⟩ (fun ⟨l, i, m⟩ => by first | rfl | simp [c_rNum, rrRef, rTok3, rLine, rR, riib3, ri, rb, rib, Sta.fresh]) fun ⟨l, i, m⟩ hp => ?_
  refine acalls_le s_rNum_sound (fn := Try.f59) (a := a_rNum) (nargs := 3) (tbl := [(2, [0, 1, 2, 9, 10]), (1000000012, [0, 1, 9, 10])]) (by kernel_rfl) (by kernel_rfl) rfl (m := 400) ?_
  show VC.holds _ _ _ (a_rNum.start s_rNum 400 [aR l, ai i, ai m])
  rw [t_rNum]
  try simp only [asRows_sl, asInt_int, asBool_bool, asStr_str, listOf_rowsOn, List.drop_zero, Prg.eta, Sta.eta, rowsOn_length, getD_drop, Nat.reduceAdd, rd_int, rd_PMem_name, rd_PMem_secret, rd_PMem_n, rd_PLabel_name, rd_PLabel_at_, rd_Ins_kind, rd_Ins_op, rd_Ins_d, rd_Ins_aR, rd_Ins_aN, rd_Ins_bR, rd_Ins_bN, rd_Ins_name, rd_Ins_target, rd_Ent_pc, rd_Ent_val, rd_Ent_addr, rd_Ent_fro, rd_Ent_next, rd_Ent_done, rd_Ent_known, rd_Ent_fault, rd_Place_reg, rd_Place_n, rd_Place_secret, rd_Obs_kind, rd_Obs_at_, rd_Dir_kind, rd_Dir_n, rd_Rn_v, rd_Tok_kind, rd_Tok_text, rd_Tok_n, rd_Tok_at_]
  try simp only [c_rNum] at hp
  obtain ⟨hl, hi, hi2, hm1, hm⟩ := hp
  exact l_rNum0 l m i hl hi hi2 hm1 hm (i, 0) ⟨0, by dsimp only; omega, by omega, by dsimp only; omega, by dsimp only; omega, fun _ => rfl, fun h => absurd h (Nat.lt_irrefl 0)⟩
noncomputable def v_rNum : List Rn × Int × Nat → Int × Int × Bool := fun x => numR x.1 x.2.1 x.2.2
noncomputable def sh_rNum : Int × Int × Bool → RR := fun y => riib3 y
theorem e_rNum (x : List Rn × Int × Nat) : sh_rNum (v_rNum x) = c_rNum.ans x := rfl
def c_rLine4 : FT (ByteArray × Unit) := ⟨28, fun x => [at_ x.1], rdT1, fun x => x.1.size ≤ 1000000, fun x => rLine (lineS x.1), true, fun x => by simp [at_, rdT1]⟩
noncomputable def a_rLine4 : FnA := (fnA Try.prog Try.f28 1 [(4, [5, 6, 7, 1000006000000900001004]), (11, [5, 6, 7, 9, 1000006000000900001004])]).getD ⟨0, .skip, [], []⟩
noncomputable def s_rLine4 : Sp := spT [c_rSigns.gfe v_rSigns sh_rSigns e_rSigns, c_rLet.gfe v_rLet sh_rLet e_rLet, c_rDig.gfe v_rDig sh_rDig e_rDig, c_rNum.gfe v_rNum sh_rNum e_rNum]
theorem s_rLine4_sound : s_rLine4.sound Try.prog := spT_sound fun e he => by
  simp only [List.mem_cons, List.not_mem_nil, or_false] at he
  rcases he with rfl | rfl | rfl | rfl
  · exact FT.gfe_good c_rSigns_good
  · exact FT.gfe_good c_rLet_good
  · exact FT.gfe_good c_rDig_good
  · exact FT.gfe_good c_rNum_good
def F_rln (l : List Rn) (i : Int) (n : Nat) (R : List (List D)) : St := ⟨mkS 133 [(5, vr (rowsOn l)), (6, vo 900001 n), (7, vi i)], [(900001, ba 4 R)]⟩
def F_rlk (l : List Rn) (i k : Int) (n : Nat) (R : List (List D)) : St := ⟨mkS 133 [(5, vr (rowsOn l)), (6, vo 900001 n), (7, vi i), (9, vi k)], [(900001, ba 4 R)]⟩
set_option maxRecDepth 100000 in
theorem t_rLine4 (s : ByteArray) : a_rLine4.start s_rLine4 400 [at_ s] =
(VC.need (PreOk c_rSigns (s, ()) [A.c (D.str s)])
(VC.all (v_rSigns (s, ())) fun (y1 : List Rn) =>
(FnA.at_ a_rLine4 0 (F_rln y1 (0 : Int) (0 : Nat) [])))) := by kernel_rfl
set_option maxRecDepth 100000 in
theorem t_rLin0 (l : List Rn) (i : Int) (n : Nat) (R : List (List D)) : a_rLine4.round s_rLine4 400 0 (F_rln l i n R) =
(VC.br (decide (i < (↑(List.length (rowsOn l)) : Int)))
 (VC.need ((0 : Int) ≤ i ∧ i < (↑(List.length (rowsOn l)) : Int) ∧ List.length (rowAt (rowsOn l) (Int.toNat i)) = (1 : Nat))
 (VC.need (okSh [Kd.int IntKind.i32] (rowAt (rowsOn l) (Int.toNat i)))
 (VC.br (asInt (List.getD (rowAt (rowsOn l) (Int.toNat i)) (0 : Nat) D.nilp) != (59 : Int))
  (VC.need ((0 : Int) ≤ i ∧ i < (↑(List.length (rowsOn l)) : Int) ∧ List.length (rowAt (rowsOn l) (Int.toNat i)) = (1 : Nat))
  (VC.need (okSh [Kd.int IntKind.i32] (rowAt (rowsOn l) (Int.toNat i)))
  (VC.br (asInt (List.getD (rowAt (rowsOn l) (Int.toNat i)) (0 : Nat) D.nilp) == (32 : Int))
   (FnA.at_ a_rLine4 0 (F_rln l (IntKind.wrap IntKind.i64 (i + (1 : Int))) n R))
   (VC.br (asInt (List.getD (rowAt (rowsOn l) (Int.toNat i)) (0 : Nat) D.nilp) == (9 : Int))
    (FnA.at_ a_rLine4 0 (F_rln l (IntKind.wrap IntKind.i64 (i + (1 : Int))) n R))
    (VC.need (PreOk c_rLet (asInt (List.getD (rowAt (rowsOn l) (Int.toNat i)) (0 : Nat) D.nilp)) [A.c (D.int IntKind.i32 (asInt (List.getD (rowAt (rowsOn l) (Int.toNat i)) (0 : Nat) D.nilp)))])
    (VC.all (v_rLet (asInt (List.getD (rowAt (rowsOn l) (Int.toNat i)) (0 : Nat) D.nilp))) fun (y4 : Bool) =>
    (VC.br (y4)
     (FnA.at_ a_rLine4 1 (F_rlk l i i n R))
     (VC.need (PreOk c_rDig (asInt (List.getD (rowAt (rowsOn l) (Int.toNat i)) (0 : Nat) D.nilp)) [A.c (D.int IntKind.i32 (asInt (List.getD (rowAt (rowsOn l) (Int.toNat i)) (0 : Nat) D.nilp)))])
     (VC.all (v_rDig (asInt (List.getD (rowAt (rowsOn l) (Int.toNat i)) (0 : Nat) D.nilp))) fun (y5 : Bool) =>
     (VC.br (y5)
      (VC.need (PreOk c_rNum (l, i, Int.toNat (5 : Int)) [A.c (D.sl (rowsOn l)), A.c (D.int IntKind.i64 i), A.c (D.int IntKind.i64 (5 : Int))])
      (VC.all (v_rNum (listOf Rn (rowsOn l), i, (5 : Nat))) fun (y6 : Int × Int × Bool) =>
      (VC.br (!y6.snd.snd)
       (VC.ret (some (RR.tup [Sum.inl Rc.nil, Sum.inl (Rc.d (D.int IntKind.i64 y6.fst)), Sum.inl (Rc.d (D.bool false))])))
       (VC.need ((List.all (rowsOn l) fun r ↦ List.length r == (1 : Nat)) = true ∧ (0 : Int) ≤ i ∧ i ≤ y6.fst ∧ y6.fst ≤ (↑(List.length (rowsOn l)) : Int))
       (VC.need (List.drop (Int.toNat i) (List.take (Int.toNat y6.fst) (rowsOn l)) = List.map (fun r ↦ [D.int IntKind.i32 (asInt (List.getD r (0 : Nat) D.nilp))]) (List.drop (Int.toNat i) (List.take (Int.toNat y6.fst) (rowsOn l))))
       (VC.need ((List.all [[D.int IntKind.i64 (2 : Int), D.str (runesBytes (List.map (fun r ↦ asInt (List.getD r (0 : Nat) D.nilp)) (List.drop (Int.toNat i) (List.take (Int.toNat y6.fst) (rowsOn l))))), D.int IntKind.i64 y6.snd.fst, D.int IntKind.i64 i]] fun r ↦ List.length r == (4 : Nat)) = true ∧ (List.all R fun r ↦ List.length r == (4 : Nat)) = true ∧ (List.length R + List.length [[D.int IntKind.i64 (2 : Int), D.str (runesBytes (List.map (fun r ↦ asInt (List.getD r (0 : Nat) D.nilp)) (List.drop (Int.toNat i) (List.take (Int.toNat y6.fst) (rowsOn l))))), D.int IntKind.i64 y6.snd.fst, D.int IntKind.i64 i]] + (100 : Nat)) * (41 : Nat) ≤ (70368744177664 : Nat))
       (FnA.at_ a_rLine4 0 (F_rln l y6.fst (List.length R + List.length [[D.int IntKind.i64 (2 : Int), D.str (runesBytes (List.map (fun r ↦ asInt (List.getD r (0 : Nat) D.nilp)) (List.drop (Int.toNat i) (List.take (Int.toNat y6.fst) (rowsOn l))))), D.int IntKind.i64 y6.snd.fst, D.int IntKind.i64 i]]) (R ++ [[D.int IntKind.i64 (2 : Int), D.str (runesBytes (List.map (fun r ↦ asInt (List.getD r (0 : Nat) D.nilp)) (List.drop (Int.toNat i) (List.take (Int.toNat y6.fst) (rowsOn l))))), D.int IntKind.i64 y6.snd.fst, D.int IntKind.i64 i]])))))))))
      (VC.br (asInt (List.getD (rowAt (rowsOn l) (Int.toNat i)) (0 : Nat) D.nilp) == (44 : Int))
       (VC.need ((List.all (rowsOn l) fun r ↦ List.length r == (1 : Nat)) = true ∧ (0 : Int) ≤ i ∧ i ≤ IntKind.wrap IntKind.i64 (i + (1 : Int)) ∧ IntKind.wrap IntKind.i64 (i + (1 : Int)) ≤ (↑(List.length (rowsOn l)) : Int))
       (VC.need (List.drop (Int.toNat i) (List.take (Int.toNat (IntKind.wrap IntKind.i64 (i + (1 : Int)))) (rowsOn l)) = List.map (fun r ↦ [D.int IntKind.i32 (asInt (List.getD r (0 : Nat) D.nilp))]) (List.drop (Int.toNat i) (List.take (Int.toNat (IntKind.wrap IntKind.i64 (i + (1 : Int)))) (rowsOn l))))
       (VC.need ((List.all [[D.int IntKind.i64 (3 : Int), D.str (runesBytes (List.map (fun r ↦ asInt (List.getD r (0 : Nat) D.nilp)) (List.drop (Int.toNat i) (List.take (Int.toNat (IntKind.wrap IntKind.i64 (i + (1 : Int)))) (rowsOn l))))), D.int IntKind.i64 (0 : Int), D.int IntKind.i64 i]] fun r ↦ List.length r == (4 : Nat)) = true ∧ (List.all R fun r ↦ List.length r == (4 : Nat)) = true ∧ (List.length R + List.length [[D.int IntKind.i64 (3 : Int), D.str (runesBytes (List.map (fun r ↦ asInt (List.getD r (0 : Nat) D.nilp)) (List.drop (Int.toNat i) (List.take (Int.toNat (IntKind.wrap IntKind.i64 (i + (1 : Int)))) (rowsOn l))))), D.int IntKind.i64 (0 : Int), D.int IntKind.i64 i]] + (100 : Nat)) * (41 : Nat) ≤ (70368744177664 : Nat))
       (FnA.at_ a_rLine4 0 (F_rln l (IntKind.wrap IntKind.i64 (i + (1 : Int))) (List.length R + List.length [[D.int IntKind.i64 (3 : Int), D.str (runesBytes (List.map (fun r ↦ asInt (List.getD r (0 : Nat) D.nilp)) (List.drop (Int.toNat i) (List.take (Int.toNat (IntKind.wrap IntKind.i64 (i + (1 : Int)))) (rowsOn l))))), D.int IntKind.i64 (0 : Int), D.int IntKind.i64 i]]) (R ++ [[D.int IntKind.i64 (3 : Int), D.str (runesBytes (List.map (fun r ↦ asInt (List.getD r (0 : Nat) D.nilp)) (List.drop (Int.toNat i) (List.take (Int.toNat (IntKind.wrap IntKind.i64 (i + (1 : Int)))) (rowsOn l))))), D.int IntKind.i64 (0 : Int), D.int IntKind.i64 i]]))))))
       (VC.br (asInt (List.getD (rowAt (rowsOn l) (Int.toNat i)) (0 : Nat) D.nilp) == (58 : Int))
        (VC.need ((List.all (rowsOn l) fun r ↦ List.length r == (1 : Nat)) = true ∧ (0 : Int) ≤ i ∧ i ≤ IntKind.wrap IntKind.i64 (i + (1 : Int)) ∧ IntKind.wrap IntKind.i64 (i + (1 : Int)) ≤ (↑(List.length (rowsOn l)) : Int))
        (VC.need (List.drop (Int.toNat i) (List.take (Int.toNat (IntKind.wrap IntKind.i64 (i + (1 : Int)))) (rowsOn l)) = List.map (fun r ↦ [D.int IntKind.i32 (asInt (List.getD r (0 : Nat) D.nilp))]) (List.drop (Int.toNat i) (List.take (Int.toNat (IntKind.wrap IntKind.i64 (i + (1 : Int)))) (rowsOn l))))
        (VC.need ((List.all [[D.int IntKind.i64 (3 : Int), D.str (runesBytes (List.map (fun r ↦ asInt (List.getD r (0 : Nat) D.nilp)) (List.drop (Int.toNat i) (List.take (Int.toNat (IntKind.wrap IntKind.i64 (i + (1 : Int)))) (rowsOn l))))), D.int IntKind.i64 (0 : Int), D.int IntKind.i64 i]] fun r ↦ List.length r == (4 : Nat)) = true ∧ (List.all R fun r ↦ List.length r == (4 : Nat)) = true ∧ (List.length R + List.length [[D.int IntKind.i64 (3 : Int), D.str (runesBytes (List.map (fun r ↦ asInt (List.getD r (0 : Nat) D.nilp)) (List.drop (Int.toNat i) (List.take (Int.toNat (IntKind.wrap IntKind.i64 (i + (1 : Int)))) (rowsOn l))))), D.int IntKind.i64 (0 : Int), D.int IntKind.i64 i]] + (100 : Nat)) * (41 : Nat) ≤ (70368744177664 : Nat))
        (FnA.at_ a_rLine4 0 (F_rln l (IntKind.wrap IntKind.i64 (i + (1 : Int))) (List.length R + List.length [[D.int IntKind.i64 (3 : Int), D.str (runesBytes (List.map (fun r ↦ asInt (List.getD r (0 : Nat) D.nilp)) (List.drop (Int.toNat i) (List.take (Int.toNat (IntKind.wrap IntKind.i64 (i + (1 : Int)))) (rowsOn l))))), D.int IntKind.i64 (0 : Int), D.int IntKind.i64 i]]) (R ++ [[D.int IntKind.i64 (3 : Int), D.str (runesBytes (List.map (fun r ↦ asInt (List.getD r (0 : Nat) D.nilp)) (List.drop (Int.toNat i) (List.take (Int.toNat (IntKind.wrap IntKind.i64 (i + (1 : Int)))) (rowsOn l))))), D.int IntKind.i64 (0 : Int), D.int IntKind.i64 i]]))))))
        (VC.br (asInt (List.getD (rowAt (rowsOn l) (Int.toNat i)) (0 : Nat) D.nilp) == (91 : Int))
         (VC.need ((List.all (rowsOn l) fun r ↦ List.length r == (1 : Nat)) = true ∧ (0 : Int) ≤ i ∧ i ≤ IntKind.wrap IntKind.i64 (i + (1 : Int)) ∧ IntKind.wrap IntKind.i64 (i + (1 : Int)) ≤ (↑(List.length (rowsOn l)) : Int))
         (VC.need (List.drop (Int.toNat i) (List.take (Int.toNat (IntKind.wrap IntKind.i64 (i + (1 : Int)))) (rowsOn l)) = List.map (fun r ↦ [D.int IntKind.i32 (asInt (List.getD r (0 : Nat) D.nilp))]) (List.drop (Int.toNat i) (List.take (Int.toNat (IntKind.wrap IntKind.i64 (i + (1 : Int)))) (rowsOn l))))
         (VC.need ((List.all [[D.int IntKind.i64 (3 : Int), D.str (runesBytes (List.map (fun r ↦ asInt (List.getD r (0 : Nat) D.nilp)) (List.drop (Int.toNat i) (List.take (Int.toNat (IntKind.wrap IntKind.i64 (i + (1 : Int)))) (rowsOn l))))), D.int IntKind.i64 (0 : Int), D.int IntKind.i64 i]] fun r ↦ List.length r == (4 : Nat)) = true ∧ (List.all R fun r ↦ List.length r == (4 : Nat)) = true ∧ (List.length R + List.length [[D.int IntKind.i64 (3 : Int), D.str (runesBytes (List.map (fun r ↦ asInt (List.getD r (0 : Nat) D.nilp)) (List.drop (Int.toNat i) (List.take (Int.toNat (IntKind.wrap IntKind.i64 (i + (1 : Int)))) (rowsOn l))))), D.int IntKind.i64 (0 : Int), D.int IntKind.i64 i]] + (100 : Nat)) * (41 : Nat) ≤ (70368744177664 : Nat))
         (FnA.at_ a_rLine4 0 (F_rln l (IntKind.wrap IntKind.i64 (i + (1 : Int))) (List.length R + List.length [[D.int IntKind.i64 (3 : Int), D.str (runesBytes (List.map (fun r ↦ asInt (List.getD r (0 : Nat) D.nilp)) (List.drop (Int.toNat i) (List.take (Int.toNat (IntKind.wrap IntKind.i64 (i + (1 : Int)))) (rowsOn l))))), D.int IntKind.i64 (0 : Int), D.int IntKind.i64 i]]) (R ++ [[D.int IntKind.i64 (3 : Int), D.str (runesBytes (List.map (fun r ↦ asInt (List.getD r (0 : Nat) D.nilp)) (List.drop (Int.toNat i) (List.take (Int.toNat (IntKind.wrap IntKind.i64 (i + (1 : Int)))) (rowsOn l))))), D.int IntKind.i64 (0 : Int), D.int IntKind.i64 i]]))))))
         (VC.br (asInt (List.getD (rowAt (rowsOn l) (Int.toNat i)) (0 : Nat) D.nilp) == (93 : Int))
          (VC.need ((List.all (rowsOn l) fun r ↦ List.length r == (1 : Nat)) = true ∧ (0 : Int) ≤ i ∧ i ≤ IntKind.wrap IntKind.i64 (i + (1 : Int)) ∧ IntKind.wrap IntKind.i64 (i + (1 : Int)) ≤ (↑(List.length (rowsOn l)) : Int))
          (VC.need (List.drop (Int.toNat i) (List.take (Int.toNat (IntKind.wrap IntKind.i64 (i + (1 : Int)))) (rowsOn l)) = List.map (fun r ↦ [D.int IntKind.i32 (asInt (List.getD r (0 : Nat) D.nilp))]) (List.drop (Int.toNat i) (List.take (Int.toNat (IntKind.wrap IntKind.i64 (i + (1 : Int)))) (rowsOn l))))
          (VC.need ((List.all [[D.int IntKind.i64 (3 : Int), D.str (runesBytes (List.map (fun r ↦ asInt (List.getD r (0 : Nat) D.nilp)) (List.drop (Int.toNat i) (List.take (Int.toNat (IntKind.wrap IntKind.i64 (i + (1 : Int)))) (rowsOn l))))), D.int IntKind.i64 (0 : Int), D.int IntKind.i64 i]] fun r ↦ List.length r == (4 : Nat)) = true ∧ (List.all R fun r ↦ List.length r == (4 : Nat)) = true ∧ (List.length R + List.length [[D.int IntKind.i64 (3 : Int), D.str (runesBytes (List.map (fun r ↦ asInt (List.getD r (0 : Nat) D.nilp)) (List.drop (Int.toNat i) (List.take (Int.toNat (IntKind.wrap IntKind.i64 (i + (1 : Int)))) (rowsOn l))))), D.int IntKind.i64 (0 : Int), D.int IntKind.i64 i]] + (100 : Nat)) * (41 : Nat) ≤ (70368744177664 : Nat))
          (FnA.at_ a_rLine4 0 (F_rln l (IntKind.wrap IntKind.i64 (i + (1 : Int))) (List.length R + List.length [[D.int IntKind.i64 (3 : Int), D.str (runesBytes (List.map (fun r ↦ asInt (List.getD r (0 : Nat) D.nilp)) (List.drop (Int.toNat i) (List.take (Int.toNat (IntKind.wrap IntKind.i64 (i + (1 : Int)))) (rowsOn l))))), D.int IntKind.i64 (0 : Int), D.int IntKind.i64 i]]) (R ++ [[D.int IntKind.i64 (3 : Int), D.str (runesBytes (List.map (fun r ↦ asInt (List.getD r (0 : Nat) D.nilp)) (List.drop (Int.toNat i) (List.take (Int.toNat (IntKind.wrap IntKind.i64 (i + (1 : Int)))) (rowsOn l))))), D.int IntKind.i64 (0 : Int), D.int IntKind.i64 i]]))))))
          (VC.br (asInt (List.getD (rowAt (rowsOn l) (Int.toNat i)) (0 : Nat) D.nilp) == (43 : Int))
           (VC.need ((List.all (rowsOn l) fun r ↦ List.length r == (1 : Nat)) = true ∧ (0 : Int) ≤ i ∧ i ≤ IntKind.wrap IntKind.i64 (i + (1 : Int)) ∧ IntKind.wrap IntKind.i64 (i + (1 : Int)) ≤ (↑(List.length (rowsOn l)) : Int))
           (VC.need (List.drop (Int.toNat i) (List.take (Int.toNat (IntKind.wrap IntKind.i64 (i + (1 : Int)))) (rowsOn l)) = List.map (fun r ↦ [D.int IntKind.i32 (asInt (List.getD r (0 : Nat) D.nilp))]) (List.drop (Int.toNat i) (List.take (Int.toNat (IntKind.wrap IntKind.i64 (i + (1 : Int)))) (rowsOn l))))
           (VC.need ((List.all [[D.int IntKind.i64 (3 : Int), D.str (runesBytes (List.map (fun r ↦ asInt (List.getD r (0 : Nat) D.nilp)) (List.drop (Int.toNat i) (List.take (Int.toNat (IntKind.wrap IntKind.i64 (i + (1 : Int)))) (rowsOn l))))), D.int IntKind.i64 (0 : Int), D.int IntKind.i64 i]] fun r ↦ List.length r == (4 : Nat)) = true ∧ (List.all R fun r ↦ List.length r == (4 : Nat)) = true ∧ (List.length R + List.length [[D.int IntKind.i64 (3 : Int), D.str (runesBytes (List.map (fun r ↦ asInt (List.getD r (0 : Nat) D.nilp)) (List.drop (Int.toNat i) (List.take (Int.toNat (IntKind.wrap IntKind.i64 (i + (1 : Int)))) (rowsOn l))))), D.int IntKind.i64 (0 : Int), D.int IntKind.i64 i]] + (100 : Nat)) * (41 : Nat) ≤ (70368744177664 : Nat))
           (FnA.at_ a_rLine4 0 (F_rln l (IntKind.wrap IntKind.i64 (i + (1 : Int))) (List.length R + List.length [[D.int IntKind.i64 (3 : Int), D.str (runesBytes (List.map (fun r ↦ asInt (List.getD r (0 : Nat) D.nilp)) (List.drop (Int.toNat i) (List.take (Int.toNat (IntKind.wrap IntKind.i64 (i + (1 : Int)))) (rowsOn l))))), D.int IntKind.i64 (0 : Int), D.int IntKind.i64 i]]) (R ++ [[D.int IntKind.i64 (3 : Int), D.str (runesBytes (List.map (fun r ↦ asInt (List.getD r (0 : Nat) D.nilp)) (List.drop (Int.toNat i) (List.take (Int.toNat (IntKind.wrap IntKind.i64 (i + (1 : Int)))) (rowsOn l))))), D.int IntKind.i64 (0 : Int), D.int IntKind.i64 i]]))))))
           (VC.ret (some (RR.tup [Sum.inl Rc.nil, Sum.inl (Rc.d (D.int IntKind.i64 i)), Sum.inl (Rc.d (D.bool false))]))))))))))))))))))
  (VC.ret (some (RR.tup [Sum.inl (Rc.new (4 : Nat) R), Sum.inl (Rc.d (D.int IntKind.i64 (0 : Int))), Sum.inl (Rc.d (D.bool true))]))))))
 (VC.ret (some (RR.tup [Sum.inl (Rc.new (4 : Nat) R), Sum.inl (Rc.d (D.int IntKind.i64 (0 : Int))), Sum.inl (Rc.d (D.bool true))])))) := by kernel_rfl
set_option maxRecDepth 100000 in
theorem t_rLin1 (l : List Rn) (i k : Int) (n : Nat) (R : List (List D)) : a_rLine4.round s_rLine4 400 1 (F_rlk l i k n R) =
(VC.br (decide (k < (↑(List.length (rowsOn l)) : Int)))
 (VC.need ((0 : Int) ≤ k ∧ k < (↑(List.length (rowsOn l)) : Int) ∧ List.length (rowAt (rowsOn l) (Int.toNat k)) = (1 : Nat))
 (VC.need (okSh [Kd.int IntKind.i32] (rowAt (rowsOn l) (Int.toNat k)))
 (VC.need (PreOk c_rLet (asInt (List.getD (rowAt (rowsOn l) (Int.toNat k)) (0 : Nat) D.nilp)) [A.c (D.int IntKind.i32 (asInt (List.getD (rowAt (rowsOn l) (Int.toNat k)) (0 : Nat) D.nilp)))])
 (VC.all (v_rLet (asInt (List.getD (rowAt (rowsOn l) (Int.toNat k)) (0 : Nat) D.nilp))) fun (y5 : Bool) =>
 (VC.br (y5)
  (FnA.at_ a_rLine4 1 (F_rlk l i (IntKind.wrap IntKind.i64 (k + (1 : Int))) n R))
  (VC.need ((0 : Int) ≤ k ∧ k < (↑(List.length (rowsOn l)) : Int) ∧ List.length (rowAt (rowsOn l) (Int.toNat k)) = (1 : Nat))
  (VC.need (okSh [Kd.int IntKind.i32] (rowAt (rowsOn l) (Int.toNat k)))
  (VC.need (PreOk c_rDig (asInt (List.getD (rowAt (rowsOn l) (Int.toNat k)) (0 : Nat) D.nilp)) [A.c (D.int IntKind.i32 (asInt (List.getD (rowAt (rowsOn l) (Int.toNat k)) (0 : Nat) D.nilp)))])
  (VC.all (v_rDig (asInt (List.getD (rowAt (rowsOn l) (Int.toNat k)) (0 : Nat) D.nilp))) fun (y6 : Bool) =>
  (VC.br (y6)
   (FnA.at_ a_rLine4 1 (F_rlk l i (IntKind.wrap IntKind.i64 (k + (1 : Int))) n R))
   (VC.need ((List.all (rowsOn l) fun r ↦ List.length r == (1 : Nat)) = true ∧ (0 : Int) ≤ i ∧ i ≤ k ∧ k ≤ (↑(List.length (rowsOn l)) : Int))
   (VC.need (List.drop (Int.toNat i) (List.take (Int.toNat k) (rowsOn l)) = List.map (fun r ↦ [D.int IntKind.i32 (asInt (List.getD r (0 : Nat) D.nilp))]) (List.drop (Int.toNat i) (List.take (Int.toNat k) (rowsOn l))))
   (VC.need ((List.all [[D.int IntKind.i64 (1 : Int), D.str (runesBytes (List.map (fun r ↦ asInt (List.getD r (0 : Nat) D.nilp)) (List.drop (Int.toNat i) (List.take (Int.toNat k) (rowsOn l))))), D.int IntKind.i64 (0 : Int), D.int IntKind.i64 i]] fun r ↦ List.length r == (4 : Nat)) = true ∧ (List.all R fun r ↦ List.length r == (4 : Nat)) = true ∧ (List.length R + List.length [[D.int IntKind.i64 (1 : Int), D.str (runesBytes (List.map (fun r ↦ asInt (List.getD r (0 : Nat) D.nilp)) (List.drop (Int.toNat i) (List.take (Int.toNat k) (rowsOn l))))), D.int IntKind.i64 (0 : Int), D.int IntKind.i64 i]] + (100 : Nat)) * (41 : Nat) ≤ (70368744177664 : Nat))
   (FnA.at_ a_rLine4 0 (F_rln l k (List.length R + List.length [[D.int IntKind.i64 (1 : Int), D.str (runesBytes (List.map (fun r ↦ asInt (List.getD r (0 : Nat) D.nilp)) (List.drop (Int.toNat i) (List.take (Int.toNat k) (rowsOn l))))), D.int IntKind.i64 (0 : Int), D.int IntKind.i64 i]]) (R ++ [[D.int IntKind.i64 (1 : Int), D.str (runesBytes (List.map (fun r ↦ asInt (List.getD r (0 : Nat) D.nilp)) (List.drop (Int.toNat i) (List.take (Int.toNat k) (rowsOn l))))), D.int IntKind.i64 (0 : Int), D.int IntKind.i64 i]]))))))))))))))))
 (VC.need ((List.all (rowsOn l) fun r ↦ List.length r == (1 : Nat)) = true ∧ (0 : Int) ≤ i ∧ i ≤ k ∧ k ≤ (↑(List.length (rowsOn l)) : Int))
 (VC.need (List.drop (Int.toNat i) (List.take (Int.toNat k) (rowsOn l)) = List.map (fun r ↦ [D.int IntKind.i32 (asInt (List.getD r (0 : Nat) D.nilp))]) (List.drop (Int.toNat i) (List.take (Int.toNat k) (rowsOn l))))
 (VC.need ((List.all [[D.int IntKind.i64 (1 : Int), D.str (runesBytes (List.map (fun r ↦ asInt (List.getD r (0 : Nat) D.nilp)) (List.drop (Int.toNat i) (List.take (Int.toNat k) (rowsOn l))))), D.int IntKind.i64 (0 : Int), D.int IntKind.i64 i]] fun r ↦ List.length r == (4 : Nat)) = true ∧ (List.all R fun r ↦ List.length r == (4 : Nat)) = true ∧ (List.length R + List.length [[D.int IntKind.i64 (1 : Int), D.str (runesBytes (List.map (fun r ↦ asInt (List.getD r (0 : Nat) D.nilp)) (List.drop (Int.toNat i) (List.take (Int.toNat k) (rowsOn l))))), D.int IntKind.i64 (0 : Int), D.int IntKind.i64 i]] + (100 : Nat)) * (41 : Nat) ≤ (70368744177664 : Nat))
 (FnA.at_ a_rLine4 0 (F_rln l k (List.length R + List.length [[D.int IntKind.i64 (1 : Int), D.str (runesBytes (List.map (fun r ↦ asInt (List.getD r (0 : Nat) D.nilp)) (List.drop (Int.toNat i) (List.take (Int.toNat k) (rowsOn l))))), D.int IntKind.i64 (0 : Int), D.int IntKind.i64 i]]) (R ++ [[D.int IntKind.i64 (1 : Int), D.str (runesBytes (List.map (fun r ↦ asInt (List.getD r (0 : Nat) D.nilp)) (List.drop (Int.toNat i) (List.take (Int.toNat k) (rowsOn l))))), D.int IntKind.i64 (0 : Int), D.int IntKind.i64 i]]))))))) := by kernel_rfl
theorem runes_slice2 (l : List Rn) (i k : Int) (h0 : 0 ≤ i) (h : i ≤ k) : List.drop i.toNat (List.take k.toNat (rowsOn l)) = rowsOn ((l.drop i.toNat).take (k - i).toNat) := by
  have := runes_slice l i (k - i).toNat h0
  rwa [show i + ((k - i).toNat : Int) = k by omega] at this
theorem l_rLin1 (l : List Rn) (i : Int) (n : Nat) (R : List (List D)) (P : RR → Prop) (hl : l.length ≤ 1000000) (hi : 0 ≤ i) (hR : (R.all fun r => r.length == 4) = true ∧ R.length ≤ 1000000) (K : (a_rLine4.at_ 0 (F_rln l (i + nameL (l.drop i.toNat)) (R.length + 1) (R ++ [row (⟨1, txt ((l.drop i.toNat).take (nameL (l.drop i.toNat))), 0, i⟩ : Tok)]))).holds s_rLine4.cx a_rLine4.rs P) : ∀ i_ : Int, (fun (k : Int) => i ≤ k ∧ k ≤ l.length ∧ nameL (l.drop i.toNat) = (k - i).toNat + nameL (l.drop k.toNat)) i_ → (a_rLine4.at_ 1 ((fun (k : Int) => F_rlk l i k n R) i_)).holds s_rLine4.cx a_rLine4.rs (P) := by
  refine loop_rule (a := a_rLine4) (j := 1) (m := 400) s_rLine4_sound (fun (k : Int) => F_rlk l i k n R) (fun (k : Int) => i ≤ k ∧ k ≤ l.length ∧ nameL (l.drop i.toNat) = (k - i).toNat + nameL (l.drop k.toNat)) (fun (k : Int) => ((l.length : Int) - k).toNat) ?_
  rintro k h_inv ih
  try dsimp only at h_inv
  show VC.holds _ _ _ (a_rLine4.round s_rLine4 400 1 (F_rlk l i k n R))
  rw [t_rLin1]
  try simp only [asRows_sl, asInt_int, asBool_bool, asStr_str, listOf_rowsOn, List.drop_zero, Prg.eta, Sta.eta, rowsOn_length, getD_drop, Nat.reduceAdd, rd_int, rd_PMem_name, rd_PMem_secret, rd_PMem_n, rd_PLabel_name, rd_PLabel_at_, rd_Ins_kind, rd_Ins_op, rd_Ins_d, rd_Ins_aR, rd_Ins_aN, rd_Ins_bR, rd_Ins_bN, rd_Ins_name, rd_Ins_target, rd_Ent_pc, rd_Ent_val, rd_Ent_addr, rd_Ent_fro, rd_Ent_next, rd_Ent_done, rd_Ent_known, rd_Ent_fault, rd_Place_reg, rd_Place_n, rd_Place_secret, rd_Obs_kind, rd_Obs_at_, rd_Dir_kind, rd_Dir_n, rd_Rn_v, rd_Tok_kind, rd_Tok_text, rd_Tok_n, rd_Tok_at_]
  obtain ⟨h0, h1, h2⟩ := h_inv
  have hk : 0 ≤ k := by omega
  rw [runes_slice2 l i k hi h0, map_rn]
  have out : nameL (l.drop k.toNat) = 0 → (a_rLine4.at_ 0 (F_rln l k (R.length + [[D.int IntKind.i64 1, D.str (runesBytes (((l.drop i.toNat).take (k - i).toNat).map (·.v))), D.int IntKind.i64 0, D.int IntKind.i64 i]].length) (R ++ [[D.int IntKind.i64 1, D.str (runesBytes (((l.drop i.toNat).take (k - i).toNat).map (·.v))), D.int IntKind.i64 0, D.int IntKind.i64 i]]))).holds s_rLine4.cx a_rLine4.rs P := fun e => by
    rw [e] at h2
    have : nameL (l.drop i.toNat) = (k - i).toNat := by omega
    rw [this, show i + ((k - i).toNat : Int) = k by omega] at K
    exact K
  have ap : ([[D.int IntKind.i64 1, D.str (runesBytes (((l.drop i.toNat).take (k - i).toNat).map (·.v))), D.int IntKind.i64 0, D.int IntKind.i64 i]].all fun r => r.length == 4) = true ∧ (R.all fun r => r.length == 4) = true ∧ (R.length + [[D.int IntKind.i64 1, D.str (runesBytes (((l.drop i.toNat).take (k - i).toNat).map (·.v))), D.int IntKind.i64 0, D.int IntKind.i64 i]].length + 100) * 41 ≤ 70368744177664 := ⟨rfl, hR.1, by simp only [List.length_cons, List.length_nil]; omega⟩
  have sl : (List.all (rowsOn l) fun r => r.length == 1) = true ∧ 0 ≤ i ∧ i ≤ k ∧ k ≤ (l.length : Int) := ⟨rowsOn_all l 1 rfl, hi, h0, h1⟩
  refine br_dec (fun hd => ?_) (fun hd => ⟨sl, rowsOn_rn _, ap, out (by rw [drop_end l k (by omega)]; rfl)⟩)
  have hn := nameL_drop l hk hd
  have wk : IntKind.wrap .i64 (k + 1) = k + 1 := wrap_small _ (by omega) (by omega)
  have nxt : isNm (rd l k).v = true → (a_rLine4.at_ 1 (F_rlk l i (IntKind.wrap .i64 (k + 1)) n R)).holds s_rLine4.cx a_rLine4.rs P := fun hm => by
    rw [if_pos hm] at hn
    rw [wk]
    exact ih _ ⟨by omega, by omega, by omega⟩ (by omega)
  refine ⟨rn_ok l k hk hd, rn_sh l k hk hd, PreOk.mk trivial rfl, all_holds fun y hy => br_holds (fun h3 => nxt ?_) (fun h3 => ⟨rn_ok l k hk hd, rn_sh l k hk hd, PreOk.mk trivial rfl, all_holds fun z hz => br_holds (fun h4 => nxt ?_) (fun h4 => ⟨sl, rowsOn_rn _, ap, out ?_⟩)⟩)⟩
  · replace hy : y = isLet (rd l k).v := hy
    unfold isNm; rw [← hy, h3]; rfl
  · replace hz : z = isDig (rd l k).v := hz
    unfold isNm; rw [← hz, h4, Bool.or_true]
  · replace hy : y = isLet (rd l k).v := hy
    replace hz : z = isDig (rd l k).v := hz
    rw [hn, if_neg]
    unfold isNm; rw [← hy, ← hz, h3, h4]; decide
theorem l_rLin0 (l : List Rn) (fin : List Tok × Int × Bool) (hl : l.length ≤ 1000000) : ∀ i_ : Int × Nat × List (List D), (fun (v : Int × Nat × List (List D)) => ∃ acc : List Tok, OnL v.2.2 v.2.1 acc ∧ 0 ≤ v.1 ∧ v.1 ≤ l.length ∧ acc.length ≤ v.1 ∧ joinL acc (lineA (l.drop v.1.toNat) v.1) = fin) i_ → (a_rLine4.at_ 0 ((fun (v : Int × Nat × List (List D)) => F_rln l v.1 v.2.1 v.2.2) i_)).holds s_rLine4.cx a_rLine4.rs (fun r => r.data.le (rLine fin)) := by
  refine loop_rule (a := a_rLine4) (j := 0) (m := 400) s_rLine4_sound (fun (v : Int × Nat × List (List D)) => F_rln l v.1 v.2.1 v.2.2) (fun (v : Int × Nat × List (List D)) => ∃ acc : List Tok, OnL v.2.2 v.2.1 acc ∧ 0 ≤ v.1 ∧ v.1 ≤ l.length ∧ acc.length ≤ v.1 ∧ joinL acc (lineA (l.drop v.1.toNat) v.1) = fin) (fun (v : Int × Nat × List (List D)) => ((l.length : Int) - v.1).toNat) ?_
  rintro ⟨i, n, R⟩ h_inv ih
  try dsimp only at h_inv
  replace ih := fun (v0 : Int) (v1 : Nat) (v2 : List (List D)) => ih (v0, v1, v2)
  try dsimp only at ih
  show VC.holds _ _ _ (a_rLine4.round s_rLine4 400 0 (F_rln l i n R))
  rw [t_rLin0]
  try simp only [asRows_sl, asInt_int, asBool_bool, asStr_str, listOf_rowsOn, List.drop_zero, Prg.eta, Sta.eta, rowsOn_length, getD_drop, Nat.reduceAdd, rd_int, rd_PMem_name, rd_PMem_secret, rd_PMem_n, rd_PLabel_name, rd_PLabel_at_, rd_Ins_kind, rd_Ins_op, rd_Ins_d, rd_Ins_aR, rd_Ins_aN, rd_Ins_bR, rd_Ins_bN, rd_Ins_name, rd_Ins_target, rd_Ent_pc, rd_Ent_val, rd_Ent_addr, rd_Ent_fro, rd_Ent_next, rd_Ent_done, rd_Ent_known, rd_Ent_fault, rd_Place_reg, rd_Place_n, rd_Place_secret, rd_Obs_kind, rd_Obs_at_, rd_Dir_kind, rd_Dir_n, rd_Rn_v, rd_Tok_kind, rd_Tok_text, rd_Tok_n, rd_Tok_at_]
  obtain ⟨acc, hR, h0, h1, hacc, hj⟩ := h_inv
  have fine : lineA (l.drop i.toNat) i = ([], 0, true) → (VC.ret (some (RR.tup [Sum.inl (Rc.new 4 R), Sum.inl (Rc.d (D.int IntKind.i64 0)), Sum.inl (Rc.d (D.bool true))]))).holds s_rLine4.cx a_rLine4.rs fun r => r.data.le (rLine fin) := fun e => ret_leD (by
    rw [e] at hj
    have hj : (acc ++ [], (0 : Int), true) = fin := hj
    rw [← hj, List.append_nil, hR.1]
    exact RR.le_refl _)
  have bad : ∀ at_ : Int, lineA (l.drop i.toNat) i = ([], at_, false) → (VC.ret (some (RR.tup [Sum.inl Rc.nil, Sum.inl (Rc.d (D.int IntKind.i64 at_)), Sum.inl (Rc.d (D.bool false))]))).holds s_rLine4.cx a_rLine4.rs fun r => r.data.le (rLine fin) := fun at_ e => ret_leD (by
    rw [e] at hj
    have hj : (([] : List Tok), at_, false) = fin := hj
    rw [← hj]
    exact RR.le_refl _)
  refine br_dec (fun hd => ?_) (fun hd => fine (by rw [drop_end l i (by omega)]; rfl))
  have hdr := drop_rn l i h0 hd
  have hc := lineA_cons (rd l i) (l.drop (i + 1).toNat) i
  rw [← hdr] at hc
  refine ⟨rn_ok l i h0 hd, rn_sh l i h0 hd, br_bne (fun h59 => ?_) (fun h59 => fine (by rw [hc, if_pos h59]))⟩
  rw [if_neg h59] at hc
  have w1 : IntKind.wrap .i64 (i + 1) = i + 1 := wrap_small _ (by omega) (by omega)
  have blank : isBl (rd l i).v = true → (a_rLine4.at_ 0 (F_rln l (IntKind.wrap .i64 (i + 1)) n R)).holds s_rLine4.cx a_rLine4.rs fun r => r.data.le (rLine fin) := fun hb => by
    rw [w1]
    rw [if_pos hb] at hc
    exact ih _ _ _ ⟨acc, hR, by omega, by omega, by omega, by rw [← hj, hc]⟩ (by omega)
  refine ⟨rn_ok l i h0 hd, rn_sh l i h0 hd, br_beq (fun h32 => blank (by unfold isBl; rw [h32]; rfl)) (fun h32 => br_beq (fun h9 => blank (by unfold isBl; rw [h9]; rfl)) (fun h9 => ?_))⟩
  have hb : ¬ isBl (rd l i).v = true := by
    unfold isBl
    simp only [Bool.or_eq_true, beq_iff_eq]
    omega
  rw [if_neg hb] at hc
  have hlen : (l.drop i.toNat).length = l.length - i.toNat := List.length_drop
  have hRl : R.length = acc.length := by rw [hR.1, rowsOn_length]
  have hRa : (R.all fun r => r.length == 4) = true := by rw [hR.1]; exact rowsOn_all acc 4 rfl
  -- a sign is taken
  have nxt : ∀ (t : Tok) (k : Nat), signL (l.drop i.toNat) i = some (t, k) → ¬ (t.kind = 2 ∧ aloneL (l.drop (i + k).toNat) = false) → (a_rLine4.at_ 0 (F_rln l (i + k) (R.length + 1) (R ++ [row t]))).holds s_rLine4.cx a_rLine4.rs fun r => r.data.le (rLine fin) := fun t k hs hn => by
    have hk := signL_pos hs
    rw [hs] at hc
    dsimp only at hc
    have hdk : (l.drop i.toNat).drop k = l.drop (i + k).toNat := by rw [List.drop_drop, show (i + k).toNat = i.toNat + k by omega]
    rw [hdk, if_neg hn] at hc
    refine ih _ _ _ ⟨acc ++ [t], hR.snoc t, by omega, by omega, by rw [List.length_append, List.length_singleton]; omega, ?_⟩ (by omega)
    rw [← hj, hc]
    unfold joinL
    split
    · simp
    · rfl
  refine ⟨PreOk.mk trivial rfl, all_holds fun y hy => br_holds (fun h2 => ?_) (fun h2 => ?_)⟩
  · replace hy : y = isLet (rd l i).v := hy
    have es : signL (l.drop i.toNat) i = some (⟨1, txt ((l.drop i.toNat).take (nameL (l.drop i.toNat))), 0, i⟩, nameL (l.drop i.toNat)) := by
      rw [hdr]
      unfold signL
      dsimp only
      rw [if_pos (by rw [← hy]; exact h2)]
    exact l_rLin1 l i n R _ hl h0 ⟨hRa, by omega⟩ (nxt _ _ es (fun q => by cases q.1)) i ⟨by omega, by omega, by omega⟩
  · replace hy : y = isLet (rd l i).v := hy
    have hy2 : ¬ isLet (rd l i).v = true := by rw [← hy, h2]; simp
    refine ⟨PreOk.mk trivial rfl, all_holds fun z hz => br_holds (fun h3 => ?_) (fun h3 => ?_)⟩
    · replace hz : z = isDig (rd l i).v := hz
      have hz2 : isDig (rd l i).v = true := by rw [← hz]; exact h3
      refine ⟨PreOk.mk ⟨hl, h0, by dsimp only; omega, by show 1 ≤ 5; decide, by show 5 ≤ 9; decide⟩ rfl, all_holds fun w hw => ?_⟩
      replace hw : w = numR l i 5 := hw
      obtain ⟨v, k, hnk⟩ : ∃ v k, numL (l.drop i.toNat) 5 = some (v, k) := by
        rw [hdr]
        unfold numL
        dsimp only
        rw [if_pos hz2]
        split
        · exact ⟨_, _, rfl⟩
        · exact ⟨_, _, rfl⟩
      have hk := numL_len hnk
      have es : signL (l.drop i.toNat) i = some (⟨2, txt ((l.drop i.toNat).take k), v, i⟩, k) := by
        rw [hdr] at hnk ⊢
        unfold signL
        dsimp only
        rw [if_neg hy2, if_pos hz2, hnk]
      unfold numR at hw
      rw [hnk] at hw
      dsimp only at hw
      cases ha : aloneL (l.drop (i + k).toNat) with
      | true =>
        rw [ha, if_pos rfl] at hw
        subst hw
        dsimp only
        rw [runes_slice l i _ h0, map_rn]
        exact br_not (br_holds (fun _ => ⟨⟨rowsOn_all l 1 rfl, h0, by omega, by omega⟩, rowsOn_rn _, ⟨rfl, hRa, by simp only [List.length_cons, List.length_nil]; omega⟩, nxt _ _ es (fun q => by rw [ha] at q; cases q.2)⟩) (fun h => by cases h))
      | false =>
        rw [ha, if_neg (by decide)] at hw
        subst hw
        refine br_not (br_holds (fun h => by cases h) (fun _ => bad _ ?_))
        rw [es] at hc
        dsimp only at hc
        have hdk : (l.drop i.toNat).drop k = l.drop (i + k).toNat := by rw [List.drop_drop, show (i + k).toNat = i.toNat + k by omega]
        rw [hdk, if_pos ⟨rfl, ha⟩] at hc
        exact hc
    · replace hz : z = isDig (rd l i).v := hz
      have hz2 : ¬ isDig (rd l i).v = true := by rw [← hz, h3]; simp
      rw [w1]
      have e1 : List.drop i.toNat (List.take (i + 1).toNat (rowsOn l)) = rowsOn [rd l i] := by
        have := runes_slice l i 1 h0
        rw [hdr] at this
        exact this
      rw [e1, map_rn]
      have sg : isSig (rd l i).v = true → (a_rLine4.at_ 0 (F_rln l (i + 1) (R.length + [[D.int IntKind.i64 3, D.str (runesBytes ([rd l i].map (·.v))), D.int IntKind.i64 0, D.int IntKind.i64 i]].length) (R ++ [[D.int IntKind.i64 3, D.str (runesBytes ([rd l i].map (·.v))), D.int IntKind.i64 0, D.int IntKind.i64 i]]))).holds s_rLine4.cx a_rLine4.rs fun r => r.data.le (rLine fin) := fun hs => by
        have es : signL (l.drop i.toNat) i = some (⟨3, txt [rd l i], 0, i⟩, 1) := by
          rw [hdr]
          unfold signL
          dsimp only
          rw [if_neg hy2, if_neg hz2, if_pos hs]
        exact nxt _ _ es (fun q => by cases q.1)
      have ap : ([[D.int IntKind.i64 3, D.str (runesBytes ([rd l i].map (·.v))), D.int IntKind.i64 0, D.int IntKind.i64 i]].all fun r => r.length == 4) = true ∧ (R.all fun r => r.length == 4) = true ∧ (R.length + [[D.int IntKind.i64 3, D.str (runesBytes ([rd l i].map (·.v))), D.int IntKind.i64 0, D.int IntKind.i64 i]].length + 100) * 41 ≤ 70368744177664 := ⟨rfl, hRa, by simp only [List.length_cons, List.length_nil]; omega⟩
      have sl : (List.all (rowsOn l) fun r => r.length == 1) = true ∧ 0 ≤ i ∧ i ≤ i + 1 ∧ i + 1 ≤ (l.length : Int) := ⟨rowsOn_all l 1 rfl, h0, by omega, by omega⟩
      refine br_beq (fun e => ⟨sl, rowsOn_rn _, ap, sg (by rw [e]; decide)⟩) (fun e44 => br_beq (fun e => ⟨sl, rowsOn_rn _, ap, sg (by rw [e]; decide)⟩) (fun e58 => br_beq (fun e => ⟨sl, rowsOn_rn _, ap, sg (by rw [e]; decide)⟩) (fun e91 => br_beq (fun e => ⟨sl, rowsOn_rn _, ap, sg (by rw [e]; decide)⟩) (fun e93 => br_beq (fun e => ⟨sl, rowsOn_rn _, ap, sg (by rw [e]; decide)⟩) (fun e43 => bad _ ?_)))))
      have hs : ¬ isSig (rd l i).v = true := by
        unfold isSig
        simp only [Bool.or_eq_true, beq_iff_eq]
        omega
      have es : signL (l.drop i.toNat) i = none := by
        rw [hdr]
        unfold signL
        dsimp only
        rw [if_neg hy2, if_neg hz2, if_neg hs]
      rw [es] at hc
      exact hc
theorem c_rLine4_good : c_rLine4.fe.Good Try.prog := by
  refine FT.good c_rLine4 ⟨Try.f28, by kernel_rfl, by decide +kernel, by kernel_rfl⟩ (fun ⟨s, u⟩ => by first | rfl | simp [c_rLine4, rrRef, rTok3, rLine, rR, riib3, ri, rb, rib, Sta.fresh]) fun ⟨s, u⟩ hp => ?_
  refine acalls_leD s_rLine4_sound (fn := Try.f28) (a := a_rLine4) (nargs := 1) (tbl := [(4, [5, 6, 7, 1000006000000900001004]), (11, [5, 6, 7, 9, 1000006000000900001004])]) (by kernel_rfl) (by kernel_rfl) rfl (m := 400) ?_
  show VC.holds _ _ _ (a_rLine4.start s_rLine4 400 [at_ s])
  rw [t_rLine4]
  try simp only [asRows_sl, asInt_int, asBool_bool, asStr_str, listOf_rowsOn, List.drop_zero, Prg.eta, Sta.eta, rowsOn_length, getD_drop, Nat.reduceAdd, rd_int, rd_PMem_name, rd_PMem_secret, rd_PMem_n, rd_PLabel_name, rd_PLabel_at_, rd_Ins_kind, rd_Ins_op, rd_Ins_d, rd_Ins_aR, rd_Ins_aN, rd_Ins_bR, rd_Ins_bN, rd_Ins_name, rd_Ins_target, rd_Ent_pc, rd_Ent_val, rd_Ent_addr, rd_Ent_fro, rd_Ent_next, rd_Ent_done, rd_Ent_known, rd_Ent_fault, rd_Place_reg, rd_Place_n, rd_Place_secret, rd_Obs_kind, rd_Obs_at_, rd_Dir_kind, rd_Dir_n, rd_Rn_v, rd_Tok_kind, rd_Tok_text, rd_Tok_n, rd_Tok_at_]
  try simp only [c_rLine4] at hp
  have hs : s.size ≤ 1000000 := hp
  have := runesS_len s
  refine ⟨PreOk.mk hs rfl, all_holds fun y hy => ?_⟩
  replace hy : y = runesS s := hy
  subst hy
  refine l_rLin0 _ (lineS s) (by omega) (0, _, _) ⟨[], OnL.nil, by dsimp only; omega, by dsimp only; omega, by simp, ?_⟩
  show joinL [] (lineA (runesS s) 0) = lineA (runesS s) 0
  unfold joinL
  split
  · rfl
  · rename_i h
    have hb := lineA_bad _ (runesS s) 0 (Bool.eq_false_iff.2 h)
    rw [← show (lineA (runesS s) 0).1 = [] from hb]
noncomputable def v_rLine4 : ByteArray × Unit → List Tok × Int × Bool := fun x => lineS x.1
noncomputable def sh_rLine4 : List Tok × Int × Bool → RR := fun y => rLine y
theorem e_rLine4 (x : ByteArray × Unit) : sh_rLine4 (v_rLine4 x) = c_rLine4.ans x := rfl
end Go.Proofs.Ytmhfhobaicklmaa.Ax
