/- The signs of a line: lexr's small functions. -/
import Derived.Test.YtmhfhobaicklmaaF1
import Derived.Test.YtmhfhobaicklmaaM2
import Derived.Test.YtmhfhobaicklmaaAxZ
namespace Go.Proofs.Ytmhfhobaicklmaa.Ax
open Go.RowKit
set_option linter.unusedVariables false
set_option linter.unusedSimpArgs false
def at_ (s : ByteArray) : A := .c (.str s)
def ar (n : Int) : A := .c (.int .i32 n)
def aR (l : List Rn) : A := .c (.sl (rowsOn l))
def rR (l : List Rn) : RR := .c (.d (.sl (rowsOn l)))
def rdT1 : List A → ByteArray × Unit
  | [.c (.str s)] => (s, ())
  | _ => default
def c_lRunes : FT (ByteArray × Unit) := ⟨53, fun x => [at_ x.1], rdT1, fun x => x.1.size ≤ 1000000, fun x => rR (runesS x.1), true, fun x => by simp [at_, rdT1]⟩
noncomputable def a_lRunes : FnA := (fnA Try.prog Try.f53 1 [(3, [3, 7, 1000003000000900001001])]).getD ⟨0, .skip, [], []⟩
def s_lRunes : Sp := spT []
theorem s_lRunes_sound : s_lRunes.sound Try.prog := spT_sound fun e he => by cases he
def F_run (s : ByteArray) (i n : Nat) (R : List (List D)) : St := ⟨mkS 16 [(3, vo 900001 n), (7, vp 448)], [(448, ⟨1, false, .iter s i⟩), (900001, ba 1 R)]⟩
set_option maxRecDepth 100000 in
theorem t_lRunes (s : ByteArray) : a_lRunes.start s_lRunes 400 [at_ s] =
(FnA.at_ a_lRunes 0 (F_run s (0 : Nat) (0 : Nat) [])) := by kernel_rfl
set_option maxRecDepth 100000 in
theorem t_lRun0 (s : ByteArray) (i n : Nat) (R : List (List D)) : a_lRunes.round s_lRunes 400 0 (F_run s i n R) =
(VC.br (decide (i < ByteArray.size s))
 (VC.need ((List.all [[D.int IntKind.i32 (↑(Utf8.decode s i).fst : Int)]] fun r ↦ List.length r == (1 : Nat)) = true ∧ (List.all R fun r ↦ List.length r == (1 : Nat)) = true ∧ (List.length R + List.length [[D.int IntKind.i32 (↑(Utf8.decode s i).fst : Int)]] + (100 : Nat)) * (5 : Nat) ≤ (70368744177664 : Nat))
 (FnA.at_ a_lRunes 0 (F_run s (i + (Utf8.decode s i).snd) (List.length R + List.length [[D.int IntKind.i32 (↑(Utf8.decode s i).fst : Int)]]) (R ++ [[D.int IntKind.i32 (↑(Utf8.decode s i).fst : Int)]]))))
 (VC.ret (some (RR.c (Rc.new (1 : Nat) R))))) := by kernel_rfl
theorem l_lRun0 (s : ByteArray) (fin : List Rn) (hf : fin.length ≤ 1000000) : ∀ i_ : Nat × Nat × List (List D), (fun (v : Nat × Nat × List (List D)) => ∃ acc : List Rn, OnL v.2.2 v.2.1 acc ∧ acc ++ runesAt s v.1 = fin) i_ → (a_lRunes.at_ 0 ((fun (v : Nat × Nat × List (List D)) => F_run s v.1 v.2.1 v.2.2) i_)).holds s_lRunes.cx a_lRunes.rs (fun r => r.data.le (rR fin)) := by
  refine loop_rule (a := a_lRunes) (j := 0) (m := 400) s_lRunes_sound (fun (v : Nat × Nat × List (List D)) => F_run s v.1 v.2.1 v.2.2) (fun (v : Nat × Nat × List (List D)) => ∃ acc : List Rn, OnL v.2.2 v.2.1 acc ∧ acc ++ runesAt s v.1 = fin) (fun (v : Nat × Nat × List (List D)) => s.size - v.1) ?_
  rintro ⟨i, n, R⟩ h_inv ih
  try dsimp only at h_inv
  replace ih := fun (v0 : Nat) (v1 : Nat) (v2 : List (List D)) => ih (v0, v1, v2)
  try dsimp only at ih
  show VC.holds _ _ _ (a_lRunes.round s_lRunes 400 0 (F_run s i n R))
  rw [t_lRun0]
  try simp only [asRows_sl, asInt_int, asBool_bool, asStr_str, listOf_rowsOn, List.drop_zero, Prg.eta, Sta.eta, rowsOn_length, getD_drop, Nat.reduceAdd, rd_int, rd_PMem_name, rd_PMem_secret, rd_PMem_n, rd_PLabel_name, rd_PLabel_at_, rd_Ins_kind, rd_Ins_op, rd_Ins_d, rd_Ins_aR, rd_Ins_aN, rd_Ins_bR, rd_Ins_bN, rd_Ins_name, rd_Ins_target, rd_Ent_pc, rd_Ent_val, rd_Ent_addr, rd_Ent_fro, rd_Ent_next, rd_Ent_done, rd_Ent_known, rd_Ent_fault, rd_Place_reg, rd_Place_n, rd_Place_secret, rd_Obs_kind, rd_Obs_at_, rd_Dir_kind, rd_Dir_n, rd_Rn_v, rd_Tok_kind, rd_Tok_text, rd_Tok_n, rd_Tok_at_]
  obtain ⟨acc, h1, h2⟩ := h_inv
  have hl : acc.length ≤ fin.length := by rw [← h2, List.length_append]; omega
  have hp := decode_pos s i
  refine br_dec (fun hd => ?_) (fun hd => ret_leD ?_)
  · refine ⟨app_ok h1 rfl rfl (by simp only [List.length_cons, List.length_nil]; omega), ih _ _ _ ⟨acc ++ [⟨((Utf8.decode s i).1 : Int)⟩], h1.snoc (⟨((Utf8.decode s i).1 : Int)⟩ : Rn), ?_⟩ (by omega)⟩
    rw [List.append_assoc, ← h2, runesAt_lt s i hd]; rfl
  · rw [runesAt_ge s i (by omega), List.append_nil] at h2
    rw [h1.1, h2]; exact RR.le_refl _
theorem c_lRunes_good : c_lRunes.fe.Good Try.prog := by
  refine FT.good c_lRunes ⟨Try.f53, by kernel_rfl, by decide +kernel, by kernel_rfl⟩ (fun ⟨s, u⟩ => by first | rfl | simp [c_lRunes, rrRef, ri, rb, rib, rR, Sta.fresh]) fun ⟨s, u⟩ hp => ?_
  refine acalls_leD s_lRunes_sound (fn := Try.f53) (a := a_lRunes) (nargs := 1) (tbl := [(3, [3, 7, 1000003000000900001001])]) (by kernel_rfl) (by kernel_rfl) rfl (m := 400) ?_
  show VC.holds _ _ _ (a_lRunes.start s_lRunes 400 [at_ s])
  rw [t_lRunes]
  try simp only [asRows_sl, asInt_int, asBool_bool, asStr_str, listOf_rowsOn, List.drop_zero, Prg.eta, Sta.eta, rowsOn_length, getD_drop, Nat.reduceAdd, rd_int, rd_PMem_name, rd_PMem_secret, rd_PMem_n, rd_PLabel_name, rd_PLabel_at_, rd_Ins_kind, rd_Ins_op, rd_Ins_d, rd_Ins_aR, rd_Ins_aN, rd_Ins_bR, rd_Ins_bN, rd_Ins_name, rd_Ins_target, rd_Ent_pc, rd_Ent_val, rd_Ent_addr, rd_Ent_fro, rd_Ent_next, rd_Ent_done, rd_Ent_known, rd_Ent_fault, rd_Place_reg, rd_Place_n, rd_Place_secret, rd_Obs_kind, rd_Obs_at_, rd_Dir_kind, rd_Dir_n, rd_Rn_v, rd_Tok_kind, rd_Tok_text, rd_Tok_n, rd_Tok_at_]
  try simp only [c_lRunes] at hp
  have hs : s.size ≤ 1000000 := hp
  have := runesS_len s
  exact l_lRun0 s (runesS s) (by omega) (0, _, _) ⟨[], OnL.nil, rfl⟩
noncomputable def v_lRunes : ByteArray × Unit → List Rn := fun x => runesS x.1
noncomputable def sh_lRunes : List Rn → RR := fun l => rR l
theorem e_lRunes (x : ByteArray × Unit) : sh_lRunes (v_lRunes x) = c_lRunes.ans x := rfl
def rdR1 : List A → Int
  | [.c (.int _ a)] => a
  | _ => 0
def c_lLet : FT Int := ⟨92, fun x => [ar x], rdR1, fun _ => True, fun x => rb (isLet x), false, fun x => rfl⟩
noncomputable def a_lLet : FnA := (fnA Try.prog Try.f92 1 []).getD ⟨0, .skip, [], []⟩
def s_lLet : Sp := spT []
theorem s_lLet_sound : s_lLet.sound Try.prog := spT_sound fun e he => by cases he
set_option maxRecDepth 100000 in
theorem t_lLet (n : Int) : a_lLet.start s_lLet 400 [ar n] =
(VC.br (decide ((97 : Int) ≤ n))
 (VC.ret (some (RR.c (Rc.d (D.bool (decide (n ≤ (122 : Int))))))))
 (VC.ret (some (RR.c (Rc.d (D.bool false)))))) := by kernel_rfl
theorem c_lLet_good : c_lLet.fe.Good Try.prog := by
  refine FT.good c_lLet ⟨Try.f92, by kernel_rfl, by decide +kernel, by kernel_rfl⟩ (fun n => by first | rfl | simp [c_lLet, rrRef, ri, rb, rib, rR, Sta.fresh]) fun n hp => ?_
  refine acalls_le s_lLet_sound (fn := Try.f92) (a := a_lLet) (nargs := 1) (tbl := []) (by kernel_rfl) (by kernel_rfl) rfl (m := 400) ?_
  show VC.holds _ _ _ (a_lLet.start s_lLet 400 [ar n])
  rw [t_lLet]
  try simp only [asRows_sl, asInt_int, asBool_bool, asStr_str, listOf_rowsOn, List.drop_zero, Prg.eta, Sta.eta, rowsOn_length, getD_drop, Nat.reduceAdd, rd_int, rd_PMem_name, rd_PMem_secret, rd_PMem_n, rd_PLabel_name, rd_PLabel_at_, rd_Ins_kind, rd_Ins_op, rd_Ins_d, rd_Ins_aR, rd_Ins_aN, rd_Ins_bR, rd_Ins_bN, rd_Ins_name, rd_Ins_target, rd_Ent_pc, rd_Ent_val, rd_Ent_addr, rd_Ent_fro, rd_Ent_next, rd_Ent_done, rd_Ent_known, rd_Ent_fault, rd_Place_reg, rd_Place_n, rd_Place_secret, rd_Obs_kind, rd_Obs_at_, rd_Dir_kind, rd_Dir_n, rd_Rn_v, rd_Tok_kind, rd_Tok_text, rd_Tok_n, rd_Tok_at_]
  try simp only [c_lLet] at hp
  have e : c_lLet.ans n = rb (isLet n) := rfl
  rw [e]
  unfold isLet
  repeat' first
    | refine br_not ?_
    | refine br_dec (fun _ => ?_) (fun _ => ?_)
    | refine br_beq (fun _ => ?_) (fun _ => ?_)
    | refine br_bne (fun _ => ?_) (fun _ => ?_)
    | refine br_holds (fun _ => ?_) (fun _ => ?_)
    | refine ⟨PreOk.mk ?_ rfl, ?_⟩
    | refine ⟨idx_ok _ _ _ rfl (by omega) (by omega), ?_⟩
    | refine ⟨okSh_ok _ _ _ (fun _ => rfl) (by omega) (by omega), ?_⟩
    | refine ⟨okSh_okD _ _ _ _ (fun _ => rfl) (by omega) (by omega), ?_⟩
    | refine ⟨aload_ok _ _ rfl (fun _ => rfl) (by omega) (by omega), ?_⟩
    | refine ⟨aload_okD _ _ _ rfl (fun _ => rfl) (by omega) (by omega), ?_⟩
    | refine ⟨astore_ok (by assumption) rfl (by omega) (by omega) (by decide), ?_⟩
    | refine ⟨app_ok (by assumption) rfl rfl (by simp only [List.length_cons, List.length_nil]; omega), ?_⟩
    | refine need_holds ?_ fun _ => ?_
    | refine all_holds fun y hy => ?_
    | refine ret_le ?_
  · rename_i h; rw [decide_eq_true h, Bool.true_and]; exact RR.le_refl _
  · rename_i h; rw [decide_eq_false h, Bool.false_and]; exact RR.le_refl _
noncomputable def v_lLet : Int → Bool := fun x => isLet x
noncomputable def sh_lLet : Bool → RR := fun b => rb b
theorem e_lLet (x : Int) : sh_lLet (v_lLet x) = c_lLet.ans x := rfl
def c_lDig : FT Int := ⟨94, fun x => [ar x], rdR1, fun _ => True, fun x => rb (isDig x), false, fun x => rfl⟩
noncomputable def a_lDig : FnA := (fnA Try.prog Try.f94 1 []).getD ⟨0, .skip, [], []⟩
def s_lDig : Sp := spT []
theorem s_lDig_sound : s_lDig.sound Try.prog := spT_sound fun e he => by cases he
set_option maxRecDepth 100000 in
theorem t_lDig (n : Int) : a_lDig.start s_lDig 400 [ar n] =
(VC.br (decide ((48 : Int) ≤ n))
 (VC.ret (some (RR.c (Rc.d (D.bool (decide (n ≤ (57 : Int))))))))
 (VC.ret (some (RR.c (Rc.d (D.bool false)))))) := by kernel_rfl
theorem c_lDig_good : c_lDig.fe.Good Try.prog := by
  refine FT.good c_lDig ⟨Try.f94, by kernel_rfl, by decide +kernel, by kernel_rfl⟩ (fun n => by first | rfl | simp [c_lDig, rrRef, ri, rb, rib, rR, Sta.fresh]) fun n hp => ?_
  refine acalls_le s_lDig_sound (fn := Try.f94) (a := a_lDig) (nargs := 1) (tbl := []) (by kernel_rfl) (by kernel_rfl) rfl (m := 400) ?_
  show VC.holds _ _ _ (a_lDig.start s_lDig 400 [ar n])
  rw [t_lDig]
  try simp only [asRows_sl, asInt_int, asBool_bool, asStr_str, listOf_rowsOn, List.drop_zero, Prg.eta, Sta.eta, rowsOn_length, getD_drop, Nat.reduceAdd, rd_int, rd_PMem_name, rd_PMem_secret, rd_PMem_n, rd_PLabel_name, rd_PLabel_at_, rd_Ins_kind, rd_Ins_op, rd_Ins_d, rd_Ins_aR, rd_Ins_aN, rd_Ins_bR, rd_Ins_bN, rd_Ins_name, rd_Ins_target, rd_Ent_pc, rd_Ent_val, rd_Ent_addr, rd_Ent_fro, rd_Ent_next, rd_Ent_done, rd_Ent_known, rd_Ent_fault, rd_Place_reg, rd_Place_n, rd_Place_secret, rd_Obs_kind, rd_Obs_at_, rd_Dir_kind, rd_Dir_n, rd_Rn_v, rd_Tok_kind, rd_Tok_text, rd_Tok_n, rd_Tok_at_]
  try simp only [c_lDig] at hp
  have e : c_lDig.ans n = rb (isDig n) := rfl
  rw [e]
  unfold isDig
  repeat' first
    | refine br_not ?_
    | refine br_dec (fun _ => ?_) (fun _ => ?_)
    | refine br_beq (fun _ => ?_) (fun _ => ?_)
    | refine br_bne (fun _ => ?_) (fun _ => ?_)
    | refine br_holds (fun _ => ?_) (fun _ => ?_)
    | refine ⟨PreOk.mk ?_ rfl, ?_⟩
    | refine ⟨idx_ok _ _ _ rfl (by omega) (by omega), ?_⟩
    | refine ⟨okSh_ok _ _ _ (fun _ => rfl) (by omega) (by omega), ?_⟩
    | refine ⟨okSh_okD _ _ _ _ (fun _ => rfl) (by omega) (by omega), ?_⟩
    | refine ⟨aload_ok _ _ rfl (fun _ => rfl) (by omega) (by omega), ?_⟩
    | refine ⟨aload_okD _ _ _ rfl (fun _ => rfl) (by omega) (by omega), ?_⟩
    | refine ⟨astore_ok (by assumption) rfl (by omega) (by omega) (by decide), ?_⟩
    | refine ⟨app_ok (by assumption) rfl rfl (by simp only [List.length_cons, List.length_nil]; omega), ?_⟩
    | refine need_holds ?_ fun _ => ?_
    | refine all_holds fun y hy => ?_
    | refine ret_le ?_
  · rename_i h; rw [decide_eq_true h, Bool.true_and]; exact RR.le_refl _
  · rename_i h; rw [decide_eq_false h, Bool.false_and]; exact RR.le_refl _
noncomputable def v_lDig : Int → Bool := fun x => isDig x
noncomputable def sh_lDig : Bool → RR := fun b => rb b
theorem e_lDig (x : Int) : sh_lDig (v_lDig x) = c_lDig.ans x := rfl
def rdRI2 : List A → List Rn × Int × Nat
  | [.c (.sl l), .c (.int _ a), .c (.int _ m)] => (listOf Rn l, a, m.toNat)
  | _ => default
def riib3 (x : Int × Int × Bool) : RR := .tup [.inl (.d (.int .i64 x.1)), .inl (.d (.int .i64 x.2.1)), .inl (.d (.bool x.2.2))]
def c_lNum : FT (List Rn × Int × Nat) := ⟨95, fun x => [aR x.1, ai x.2.1, ai x.2.2], rdRI2, fun x => x.1.length ≤ 1000000 ∧ 0 ≤ x.2.1 ∧ x.2.1 ≤ 1000000 ∧ x.2.2 ≤ 9, fun x => riib3 (numS x.1 x.2.1 x.2.2), false, fun x => by simp [aR, ai, rdRI2]⟩
noncomputable def a_lNum : FnA := (fnA Try.prog Try.f95 3 [(6, [0, 1, 2, 9, 10])]).getD ⟨0, .skip, [], []⟩
noncomputable def s_lNum : Sp := spT [c_lDig.gfe v_lDig sh_lDig e_lDig]
theorem s_lNum_sound : s_lNum.sound Try.prog := spT_sound fun e he => by
  simp only [List.mem_cons, List.not_mem_nil, or_false] at he
  rcases he with rfl
  · exact FT.gfe_good c_lDig_good
def F_num (l : List Rn) (m : Nat) (n a i : Int) : St := ⟨mkS 63 [(0, vr (rowsOn l)), (1, vi a), (2, vi m), (9, vi n), (10, vi i)], []⟩
set_option maxRecDepth 100000 in
theorem t_lNum (l : List Rn) (i : Int) (m : Nat) : a_lNum.start s_lNum 400 [aR l, ai i, ai m] =
(VC.br (decide ((↑(List.length (rowsOn l)) : Int) ≤ i))
 (VC.ret (some (RR.tup [Sum.inl (Rc.d (D.int IntKind.i64 (0 : Int))), Sum.inl (Rc.d (D.int IntKind.i64 i)), Sum.inl (Rc.d (D.bool false))])))
 (VC.need ((0 : Int) ≤ i ∧ i < (↑(List.length (rowsOn l)) : Int) ∧ List.length (rowAt (rowsOn l) (Int.toNat i)) = (1 : Nat))
 (VC.need (okSh [Kd.int IntKind.i32] (rowAt (rowsOn l) (Int.toNat i)))
 (VC.need (PreOk c_lDig (asInt (List.getD (rowAt (rowsOn l) (Int.toNat i)) (0 : Nat) D.nilp)) [A.c (D.int IntKind.i32 (asInt (List.getD (rowAt (rowsOn l) (Int.toNat i)) (0 : Nat) D.nilp)))])
 (VC.all (v_lDig (asInt (List.getD (rowAt (rowsOn l) (Int.toNat i)) (0 : Nat) D.nilp))) fun (y3 : Bool) =>
 (VC.br (!y3)
  (VC.ret (some (RR.tup [Sum.inl (Rc.d (D.int IntKind.i64 (0 : Int))), Sum.inl (Rc.d (D.int IntKind.i64 i)), Sum.inl (Rc.d (D.bool false))])))
  (VC.need ((0 : Int) ≤ i ∧ i < (↑(List.length (rowsOn l)) : Int) ∧ List.length (rowAt (rowsOn l) (Int.toNat i)) = (1 : Nat))
  (VC.need (okSh [Kd.int IntKind.i32] (rowAt (rowsOn l) (Int.toNat i)))
  (VC.br (asInt (List.getD (rowAt (rowsOn l) (Int.toNat i)) (0 : Nat) D.nilp) == (48 : Int))
   (VC.ret (some (RR.tup [Sum.inl (Rc.d (D.int IntKind.i64 (0 : Int))), Sum.inl (Rc.d (D.int IntKind.i64 (IntKind.wrap IntKind.i64 (i + (1 : Int))))), Sum.inl (Rc.d (D.bool true))])))
   (FnA.at_ a_lNum 0 (F_num l m (0 : Int) i i))))))))))) := by kernel_rfl
set_option maxRecDepth 100000 in
theorem t_lNum0 (l : List Rn) (m : Nat) (n a i : Int) : a_lNum.round s_lNum 400 0 (F_num l m n a i) =
(VC.br (decide (a < (↑(List.length (rowsOn l)) : Int)))
 (VC.need ((0 : Int) ≤ a ∧ a < (↑(List.length (rowsOn l)) : Int) ∧ List.length (rowAt (rowsOn l) (Int.toNat a)) = (1 : Nat))
 (VC.need (okSh [Kd.int IntKind.i32] (rowAt (rowsOn l) (Int.toNat a)))
 (VC.need (PreOk c_lDig (asInt (List.getD (rowAt (rowsOn l) (Int.toNat a)) (0 : Nat) D.nilp)) [A.c (D.int IntKind.i32 (asInt (List.getD (rowAt (rowsOn l) (Int.toNat a)) (0 : Nat) D.nilp)))])
 (VC.all (v_lDig (asInt (List.getD (rowAt (rowsOn l) (Int.toNat a)) (0 : Nat) D.nilp))) fun (y5 : Bool) =>
 (VC.br (y5)
  (VC.br (decide (IntKind.wrap IntKind.i64 (a - i) < (↑m : Int)))
   (VC.need ((0 : Int) ≤ a ∧ a < (↑(List.length (rowsOn l)) : Int) ∧ List.length (rowAt (rowsOn l) (Int.toNat a)) = (1 : Nat))
   (VC.need (okSh [Kd.int IntKind.i32] (rowAt (rowsOn l) (Int.toNat a)))
   (FnA.at_ a_lNum 0 (F_num l m (IntKind.wrap IntKind.i64 (IntKind.wrap IntKind.i64 ((10 : Int) * n) + IntKind.wrap IntKind.i64 (IntKind.wrap IntKind.i32 (asInt (List.getD (rowAt (rowsOn l) (Int.toNat a)) (0 : Nat) D.nilp) - (48 : Int))))) (IntKind.wrap IntKind.i64 (a + (1 : Int))) i))))
   (VC.ret (some (RR.tup [Sum.inl (Rc.d (D.int IntKind.i64 n)), Sum.inl (Rc.d (D.int IntKind.i64 a)), Sum.inl (Rc.d (D.bool true))]))))
  (VC.ret (some (RR.tup [Sum.inl (Rc.d (D.int IntKind.i64 n)), Sum.inl (Rc.d (D.int IntKind.i64 a)), Sum.inl (Rc.d (D.bool true))]))))))))
 (VC.ret (some (RR.tup [Sum.inl (Rc.d (D.int IntKind.i64 n)), Sum.inl (Rc.d (D.int IntKind.i64 a)), Sum.inl (Rc.d (D.bool true))])))) := by kernel_rfl
theorem ten_pow {k : Nat} (h : k ≤ 9) : (10 : Int) ^ k ≤ 1000000000 := by
  have h1 : (10 : Nat) ^ k ≤ 10 ^ 9 := Nat.pow_le_pow_right (by decide) h
  have h2 : (((10 : Nat) ^ k : Nat) : Int) = (10 : Int) ^ k := by simp
  omega
theorem rn_ok (l : List Rn) (k : Int) (h0 : 0 ≤ k) (h : k < l.length) : 0 ≤ k ∧ k < (l.length : Int) ∧ (rowAt (rowsOn l) k.toNat).length = 1 := ⟨h0, h, by rw [rowAt_on l k h0 h]; rfl⟩
theorem rn_sh (l : List Rn) (k : Int) (h0 : 0 ≤ k) (h : k < l.length) : okSh [Kd.int IntKind.i32] (rowAt (rowsOn l) k.toNat) := okSh_ok _ l k (fun _ => rfl) h0 h
theorem l_lNum0 (l : List Rn) (m : Nat) (i : Int) (fin : Int × Int) (hl : l.length ≤ 1000000) (hi : 0 ≤ i) (hm : m ≤ 9) (hi2 : i ≤ 1000000) : ∀ i_ : Int × Int, (fun (v : Int × Int) => ∃ k : Nat, v.2 = i + k ∧ k ≤ m ∧ 0 ≤ v.1 ∧ v.1 < (10 : Int) ^ k ∧ (digF (l.drop v.2.toNat) (m - k) v.1).1 = fin.1 ∧ v.2 + (digF (l.drop v.2.toNat) (m - k) v.1).2 = fin.2) i_ → (a_lNum.at_ 0 ((fun (v : Int × Int) => F_num l m v.1 v.2 i) i_)).holds s_lNum.cx a_lNum.rs (fun r => r.le (riib3 (fin.1, fin.2, true))) := by
  refine loop_rule (a := a_lNum) (j := 0) (m := 400) s_lNum_sound (fun (v : Int × Int) => F_num l m v.1 v.2 i) (fun (v : Int × Int) => ∃ k : Nat, v.2 = i + k ∧ k ≤ m ∧ 0 ≤ v.1 ∧ v.1 < (10 : Int) ^ k ∧ (digF (l.drop v.2.toNat) (m - k) v.1).1 = fin.1 ∧ v.2 + (digF (l.drop v.2.toNat) (m - k) v.1).2 = fin.2) (fun (v : Int × Int) => ((l.length : Int) - v.2).toNat) ?_
  rintro ⟨n, a⟩ h_inv ih
  try dsimp only at h_inv
  replace ih := fun (v0 : Int) (v1 : Int) => ih (v0, v1)
  try dsimp only at ih
  show VC.holds _ _ _ (a_lNum.round s_lNum 400 0 (F_num l m n a i))
  rw [t_lNum0]
  try simp only [asRows_sl, asInt_int, asBool_bool, asStr_str, listOf_rowsOn, List.drop_zero, Prg.eta, Sta.eta, rowsOn_length, getD_drop, Nat.reduceAdd, rd_int, rd_PMem_name, rd_PMem_secret, rd_PMem_n, rd_PLabel_name, rd_PLabel_at_, rd_Ins_kind, rd_Ins_op, rd_Ins_d, rd_Ins_aR, rd_Ins_aN, rd_Ins_bR, rd_Ins_bN, rd_Ins_name, rd_Ins_target, rd_Ent_pc, rd_Ent_val, rd_Ent_addr, rd_Ent_fro, rd_Ent_next, rd_Ent_done, rd_Ent_known, rd_Ent_fault, rd_Place_reg, rd_Place_n, rd_Place_secret, rd_Obs_kind, rd_Obs_at_, rd_Dir_kind, rd_Dir_n, rd_Rn_v, rd_Tok_kind, rd_Tok_text, rd_Tok_n, rd_Tok_at_]
  obtain ⟨k, e1, k1, n0, n1, h1, h2⟩ := h_inv
  have hk := ten_pow (k := k) (by omega)
  have ret : (digF (l.drop a.toNat) (m - k) n) = (n, 0) → (VC.ret (some (RR.tup [Sum.inl (Rc.d (D.int IntKind.i64 n)), Sum.inl (Rc.d (D.int IntKind.i64 a)), Sum.inl (Rc.d (D.bool true))]))).holds s_lNum.cx a_lNum.rs fun r => r.le (riib3 (fin.1, fin.2, true)) := fun e => ret_le (by
    rw [e] at h1 h2
    have h1 : n = fin.1 := h1
    have h2 : a + 0 = fin.2 := h2
    rw [← h1, ← h2, Int.add_zero]
    exact RR.le_refl _)
  refine br_dec (fun hd => ?_) (fun hd => ret ?_)
  · have a0 : 0 ≤ a := by omega
    rw [drop_rn l a a0 hd] at h1 h2 ret
    refine ⟨rn_ok l a a0 hd, rn_sh l a a0 hd, PreOk.mk trivial rfl, all_holds fun y hy => br_holds (fun hg => ?_) (fun hg => ret ?_)⟩
    · replace hy : y = isDig (rd l a).v := hy
      have hg1 : isDig (rd l a).v = true := by rw [← hy]; exact hg
      have hg2 := isDig_iff.1 hg1
      rw [wrap_small (a - i) (by omega) (by omega)]
      refine br_dec (fun hm2 => ?_) (fun hm2 => ret ?_)
      · obtain ⟨q, hq⟩ : ∃ q, m - k = q + 1 := ⟨m - k - 1, by omega⟩
        rw [wrap_small32 _ (by omega) (by omega), wrap_small ((rd l a).v - 48) (by omega) (by omega), wrap_small (10 * n) (by omega) (by omega), wrap_small (10 * n + ((rd l a).v - 48)) (by omega) (by omega), wrap_small (a + 1) (by omega) (by omega)]
        refine ⟨rn_ok l a a0 hd, rn_sh l a a0 hd, ih _ _ ⟨k + 1, by omega, by omega, by omega, ?_, ?_, ?_⟩ (by omega)⟩
        · rw [Int.pow_succ]; omega
        · rw [hq] at h1
          unfold digF at h1
          rw [if_pos hg1] at h1
          rw [show m - (k + 1) = q by omega]
          exact h1
        · rw [hq] at h2
          unfold digF at h2
          rw [if_pos hg1] at h2
          rw [show m - (k + 1) = q by omega]
          dsimp only at h2 ⊢
          omega
      · rw [show m - k = 0 by omega]; rfl
    · replace hy : y = isDig (rd l a).v := hy
      have hg1 : ¬ isDig (rd l a).v = true := by rw [← hy, hg]; simp
      exact digF_stop hg1 _ _ _
  · rw [drop_end l a (by omega)]
    cases m - k <;> rfl
theorem c_lNum_good : c_lNum.fe.Good Try.prog := by
  refine FT.good c_lNum ⟨Try.f95, by kernel_rfl, by decide +kernel, by kernel_rfl⟩ (fun ⟨l, i, m⟩ => by first | rfl | simp [c_lNum, rrRef, ri, rb, rib, rR, riib3, Sta.fresh]) fun ⟨l, i, m⟩ hp => ?_
  refine acalls_le s_lNum_sound (fn := Try.f95) (a := a_lNum) (nargs := 3) (tbl := [(6, [0, 1, 2, 9, 10])]) (by kernel_rfl) (by kernel_rfl) rfl (m := 400) ?_
  show VC.holds _ _ _ (a_lNum.start s_lNum 400 [aR l, ai i, ai m])
  rw [t_lNum]
  try simp only [asRows_sl, asInt_int, asBool_bool, asStr_str, listOf_rowsOn, List.drop_zero, Prg.eta, Sta.eta, rowsOn_length, getD_drop, Nat.reduceAdd, rd_int, rd_PMem_name, rd_PMem_secret, rd_PMem_n, rd_PLabel_name, rd_PLabel_at_, rd_Ins_kind, rd_Ins_op, rd_Ins_d, rd_Ins_aR, rd_Ins_aN, rd_Ins_bR, rd_Ins_bN, rd_Ins_name, rd_Ins_target, rd_Ent_pc, rd_Ent_val, rd_Ent_addr, rd_Ent_fro, rd_Ent_next, rd_Ent_done, rd_Ent_known, rd_Ent_fault, rd_Place_reg, rd_Place_n, rd_Place_secret, rd_Obs_kind, rd_Obs_at_, rd_Dir_kind, rd_Dir_n, rd_Rn_v, rd_Tok_kind, rd_Tok_text, rd_Tok_n, rd_Tok_at_]
  try simp only [c_lNum] at hp
  obtain ⟨hl, hi, hi2, hm⟩ := hp
  have e : c_lNum.ans (l, i, m) = riib3 (numS l i m) := rfl
  rw [e]
  unfold numS
  refine br_dec (fun hd => ?_) (fun hd => ?_)
  · rw [drop_end l i hd]; exact ret_le (RR.le_refl _)
  · rw [drop_rn l i hi (by omega)]
    refine ⟨rn_ok l i hi (by omega), rn_sh l i hi (by omega), PreOk.mk trivial rfl, all_holds fun y hy => br_not (br_holds (fun hg => ?_) (fun hg => ?_))⟩
    · replace hy : y = isDig (rd l i).v := hy
      have hg1 : isDig (rd l i).v = true := by rw [← hy]; exact hg
      unfold numL
      dsimp only
      rw [if_pos hg1]
      refine ⟨rn_ok l i hi (by omega), rn_sh l i hi (by omega), br_beq (fun h8 => ?_) (fun h8 => ?_)⟩
      · rw [if_pos h8, wrap_small (i + 1) (by omega) (by omega)]; exact ret_le (RR.le_refl _)
      · rw [if_neg h8]
        refine l_lNum0 l m i ((digF (rd l i :: l.drop (i + 1).toNat) m 0).1, i + ((digF (rd l i :: l.drop (i + 1).toNat) m 0).2 : Int)) hl hi hm hi2 (0, i) ⟨0, by dsimp only; omega, by omega, by dsimp only; omega, by dsimp only; omega, ?_, ?_⟩
        · dsimp only; rw [Nat.sub_zero, drop_rn l i hi (by omega)]
        · dsimp only; rw [Nat.sub_zero, drop_rn l i hi (by omega)]
    · replace hy : y = isDig (rd l i).v := hy
      have hg1 : ¬ isDig (rd l i).v = true := by rw [← hy, hg]; simp
      unfold numL
      dsimp only
      rw [if_neg hg1]
      exact ret_le (RR.le_refl _)
noncomputable def v_lNum : List Rn × Int × Nat → Int × Int × Bool := fun x => numS x.1 x.2.1 x.2.2
noncomputable def sh_lNum : Int × Int × Bool → RR := fun y => riib3 y
theorem e_lNum (x : List Rn × Int × Nat) : sh_lNum (v_lNum x) = c_lNum.ans x := rfl
def rdRI : List A → List Rn × Int
  | [.c (.sl l), .c (.int _ a)] => (listOf Rn l, a)
  | _ => default
def c_lAlone : FT (List Rn × Int) := ⟨55, fun x => [aR x.1, ai x.2], rdRI, fun x => 0 ≤ x.2, fun x => rb (aloneL (x.1.drop x.2.toNat)), false, fun x => by simp [aR, ai, rdRI]⟩
noncomputable def a_lAlone : FnA := (fnA Try.prog Try.f55 2 []).getD ⟨0, .skip, [], []⟩
noncomputable def s_lAlone : Sp := spT [c_lLet.gfe v_lLet sh_lLet e_lLet, c_lDig.gfe v_lDig sh_lDig e_lDig]
theorem s_lAlone_sound : s_lAlone.sound Try.prog := spT_sound fun e he => by
  simp only [List.mem_cons, List.not_mem_nil, or_false] at he
  rcases he with rfl | rfl
  · exact FT.gfe_good c_lLet_good
  · exact FT.gfe_good c_lDig_good
set_option maxRecDepth 100000 in
theorem t_lAlone (l : List Rn) (i : Int) : a_lAlone.start s_lAlone 400 [aR l, ai i] =
(VC.br (decide ((↑(List.length (rowsOn l)) : Int) ≤ i))
 (VC.ret (some (RR.c (Rc.d (D.bool true)))))
 (VC.need ((0 : Int) ≤ i ∧ i < (↑(List.length (rowsOn l)) : Int) ∧ List.length (rowAt (rowsOn l) (Int.toNat i)) = (1 : Nat))
 (VC.need (okSh [Kd.int IntKind.i32] (rowAt (rowsOn l) (Int.toNat i)))
 (VC.need (PreOk c_lLet (asInt (List.getD (rowAt (rowsOn l) (Int.toNat i)) (0 : Nat) D.nilp)) [A.c (D.int IntKind.i32 (asInt (List.getD (rowAt (rowsOn l) (Int.toNat i)) (0 : Nat) D.nilp)))])
 (VC.all (v_lLet (asInt (List.getD (rowAt (rowsOn l) (Int.toNat i)) (0 : Nat) D.nilp))) fun (y2 : Bool) =>
 (VC.br (!y2)
  (VC.need ((0 : Int) ≤ i ∧ i < (↑(List.length (rowsOn l)) : Int) ∧ List.length (rowAt (rowsOn l) (Int.toNat i)) = (1 : Nat))
  (VC.need (okSh [Kd.int IntKind.i32] (rowAt (rowsOn l) (Int.toNat i)))
  (VC.need (PreOk c_lDig (asInt (List.getD (rowAt (rowsOn l) (Int.toNat i)) (0 : Nat) D.nilp)) [A.c (D.int IntKind.i32 (asInt (List.getD (rowAt (rowsOn l) (Int.toNat i)) (0 : Nat) D.nilp)))])
  (VC.all (v_lDig (asInt (List.getD (rowAt (rowsOn l) (Int.toNat i)) (0 : Nat) D.nilp))) fun (y3 : Bool) =>
  (VC.ret (some (RR.c (Rc.d (D.bool !y3)))))))))
  (VC.ret (some (RR.c (Rc.d (D.bool false))))))))))) := by kernel_rfl
theorem c_lAlone_good : c_lAlone.fe.Good Try.prog := by
  refine FT.good c_lAlone ⟨Try.f55, by kernel_rfl, by decide +kernel, by kernel_rfl⟩ (fun ⟨l, i⟩ => by first | rfl | simp [c_lAlone, rrRef, ri, rb, rib, rR, riib3, Sta.fresh]) fun ⟨l, i⟩ hp => ?_
  refine acalls_le s_lAlone_sound (fn := Try.f55) (a := a_lAlone) (nargs := 2) (tbl := []) (by kernel_rfl) (by kernel_rfl) rfl (m := 400) ?_
  show VC.holds _ _ _ (a_lAlone.start s_lAlone 400 [aR l, ai i])
  rw [t_lAlone]
  try simp only [asRows_sl, asInt_int, asBool_bool, asStr_str, listOf_rowsOn, List.drop_zero, Prg.eta, Sta.eta, rowsOn_length, getD_drop, Nat.reduceAdd, rd_int, rd_PMem_name, rd_PMem_secret, rd_PMem_n, rd_PLabel_name, rd_PLabel_at_, rd_Ins_kind, rd_Ins_op, rd_Ins_d, rd_Ins_aR, rd_Ins_aN, rd_Ins_bR, rd_Ins_bN, rd_Ins_name, rd_Ins_target, rd_Ent_pc, rd_Ent_val, rd_Ent_addr, rd_Ent_fro, rd_Ent_next, rd_Ent_done, rd_Ent_known, rd_Ent_fault, rd_Place_reg, rd_Place_n, rd_Place_secret, rd_Obs_kind, rd_Obs_at_, rd_Dir_kind, rd_Dir_n, rd_Rn_v, rd_Tok_kind, rd_Tok_text, rd_Tok_n, rd_Tok_at_]
  try simp only [c_lAlone] at hp
  have hi : 0 ≤ i := hp
  have e : c_lAlone.ans (l, i) = rb (aloneL (l.drop i.toNat)) := rfl
  rw [e]
  refine br_dec (fun hd => ?_) (fun hd => ?_)
  · rw [drop_end l i hd]; exact ret_le (RR.le_refl _)
  · rw [drop_rn l i hi (by omega)]
    have ea : aloneL (rd l i :: l.drop (i + 1).toNat) = !(isLet (rd l i).v || isDig (rd l i).v) := rfl
    rw [ea]
    refine ⟨rn_ok l i hi (by omega), rn_sh l i hi (by omega), PreOk.mk trivial rfl, all_holds fun y hy => br_not (br_holds (fun h1 => ?_) (fun h1 => ?_))⟩
    · replace hy : y = isLet (rd l i).v := hy
      rw [← hy, h1]; exact ret_le (RR.le_refl _)
    · replace hy : y = isLet (rd l i).v := hy
      rw [← hy, h1, Bool.false_or]
      refine ⟨rn_ok l i hi (by omega), rn_sh l i hi (by omega), PreOk.mk trivial rfl, all_holds fun z hz => ?_⟩
      subst hz
      exact ret_le (RR.le_refl _)
noncomputable def v_lAlone : List Rn × Int → Bool := fun x => aloneL (x.1.drop x.2.toNat)
noncomputable def sh_lAlone : Bool → RR := fun b => rb b
theorem e_lAlone (x : List Rn × Int) : sh_lAlone (v_lAlone x) = c_lAlone.ans x := rfl
def c_lNm1 : FT Int := ⟨110, fun x => [ar x], rdR1, fun _ => True, fun x => rb (!isNm x), false, fun x => rfl⟩
noncomputable def a_lNm1 : FnA := (fnA Try.prog Try.f110 1 []).getD ⟨0, .skip, [], []⟩
noncomputable def s_lNm1 : Sp := spT [c_lLet.gfe v_lLet sh_lLet e_lLet, c_lDig.gfe v_lDig sh_lDig e_lDig]
theorem s_lNm1_sound : s_lNm1.sound Try.prog := spT_sound fun e he => by
  simp only [List.mem_cons, List.not_mem_nil, or_false] at he
  rcases he with rfl | rfl
  · exact FT.gfe_good c_lLet_good
  · exact FT.gfe_good c_lDig_good
set_option maxRecDepth 100000 in
theorem t_lNm1 (n : Int) : a_lNm1.start s_lNm1 400 [ar n] =
(VC.need (PreOk c_lLet n [A.c (D.int IntKind.i32 n)])
(VC.all (v_lLet n) fun (y1 : Bool) =>
(VC.br (!y1)
 (VC.need (PreOk c_lDig n [A.c (D.int IntKind.i32 n)])
 (VC.all (v_lDig n) fun (y2 : Bool) =>
 (VC.ret (some (RR.c (Rc.d (D.bool !y2)))))))
 (VC.ret (some (RR.c (Rc.d (D.bool false)))))))) := by kernel_rfl
theorem c_lNm1_good : c_lNm1.fe.Good Try.prog := by
  refine FT.good c_lNm1 ⟨Try.f110, by kernel_rfl, by decide +kernel, by kernel_rfl⟩ (fun n => by first | rfl | simp [c_lNm1, rrRef, ri, rb, rib, rR, riib3, Sta.fresh]) fun n hp => ?_
  refine acalls_le s_lNm1_sound (fn := Try.f110) (a := a_lNm1) (nargs := 1) (tbl := []) (by kernel_rfl) (by kernel_rfl) rfl (m := 400) ?_
  show VC.holds _ _ _ (a_lNm1.start s_lNm1 400 [ar n])
  rw [t_lNm1]
  try simp only [asRows_sl, asInt_int, asBool_bool, asStr_str, listOf_rowsOn, List.drop_zero, Prg.eta, Sta.eta, rowsOn_length, getD_drop, Nat.reduceAdd, rd_int, rd_PMem_name, rd_PMem_secret, rd_PMem_n, rd_PLabel_name, rd_PLabel_at_, rd_Ins_kind, rd_Ins_op, rd_Ins_d, rd_Ins_aR, rd_Ins_aN, rd_Ins_bR, rd_Ins_bN, rd_Ins_name, rd_Ins_target, rd_Ent_pc, rd_Ent_val, rd_Ent_addr, rd_Ent_fro, rd_Ent_next, rd_Ent_done, rd_Ent_known, rd_Ent_fault, rd_Place_reg, rd_Place_n, rd_Place_secret, rd_Obs_kind, rd_Obs_at_, rd_Dir_kind, rd_Dir_n, rd_Rn_v, rd_Tok_kind, rd_Tok_text, rd_Tok_n, rd_Tok_at_]
  try simp only [c_lNm1] at hp
  have e : c_lNm1.ans n = rb (!(isLet n || isDig n)) := rfl
  rw [e]
  refine ⟨PreOk.mk trivial rfl, all_holds fun y hy => br_not (br_holds (fun h1 => ?_) (fun h1 => ?_))⟩
  · replace hy : y = isLet n := hy
    rw [← hy, h1]; exact ret_le (RR.le_refl _)
  · replace hy : y = isLet n := hy
    rw [← hy, h1, Bool.false_or]
    refine ⟨PreOk.mk trivial rfl, all_holds fun z hz => ?_⟩
    subst hz
    exact ret_le (RR.le_refl _)
def aFn1 : A := .c (.fn 110 [])
def rdLF1 : List A → List Rn × Unit
  | [.c (.sl l), _] => (listOf Rn l, ())
  | _ => default
def ixN (l : List Rn) : Int := if nameL l = l.length then -1 else nameL l
def c_ixR : FT (List Rn × Unit) := ⟨109, fun x => [aR x.1, aFn1], rdLF1, fun x => x.1.length ≤ 1000000, fun x => ri (ixN x.1), false, fun x => by simp [aR, aFn1, rdLF1]⟩
noncomputable def a_ixR : FnA := (fnA Try.prog Try.f109 2 [(2, [0, 1, 7, 8])]).getD ⟨0, .skip, [], []⟩
def s_ixR : Sp := spT [c_lNm1.fe]
theorem s_ixR_sound : s_ixR.sound Try.prog := spT_sound fun e he => by
  simp only [List.mem_cons, List.not_mem_nil, or_false] at he
  rcases he with rfl
  · exact c_lNm1_good
def F_ixR (l : List Rn) (n i : Int) : St := ⟨mkS 19 [(0, vr (rowsOn l)), (1, .c (.d (.fn 110 []))), (7, vi n), (8, vi i)], []⟩
set_option maxRecDepth 100000 in
theorem t_ixR (l : List Rn) : a_ixR.start s_ixR 400 [aR l, aFn1] =
(FnA.at_ a_ixR 0 (F_ixR l (↑(List.length (rowsOn l)) : Int) (0 : Int))) := by kernel_rfl
set_option maxRecDepth 100000 in
theorem t_ixR0 (l : List Rn) (n i : Int) : a_ixR.round s_ixR 400 0 (F_ixR l n i) =
(VC.br (decide (i < n))
 (VC.need ((0 : Int) ≤ i ∧ i < (↑(List.length (rowsOn l)) : Int) ∧ List.length (rowAt (rowsOn l) (Int.toNat i)) = (1 : Nat))
 (VC.need (okSh [Kd.int IntKind.i32] (rowAt (rowsOn l) (Int.toNat i)))
 (VC.need (PreOk c_lNm1 (asInt (List.getD (rowAt (rowsOn l) (Int.toNat i)) (0 : Nat) D.nilp)) [A.c (D.int IntKind.i32 (asInt (List.getD (rowAt (rowsOn l) (Int.toNat i)) (0 : Nat) D.nilp)))])
 (VC.br (!isNm (asInt (List.getD (rowAt (rowsOn l) (Int.toNat i)) (0 : Nat) D.nilp)))
  (VC.ret (some (RR.c (Rc.d (D.int IntKind.i64 i)))))
  (FnA.at_ a_ixR 0 (F_ixR l n (IntKind.wrap IntKind.i64 (i + (1 : Int)))))))))
 (VC.ret (some (RR.c (Rc.d (D.int IntKind.i64 (-1 : Int))))))) := by kernel_rfl
theorem nameL_drop (l : List Rn) {i : Int} (h0 : 0 ≤ i) (h : i < l.length) : nameL (l.drop i.toNat) = if isNm (rd l i).v = true then nameL (l.drop (i + 1).toNat) + 1 else 0 := by
  rw [drop_rn l i h0 h, nameL_cons]
theorem l_ixR0 (l : List Rn) (hl : l.length ≤ 1000000) : ∀ i_ : Int, (fun (i : Int) => 0 ≤ i ∧ i ≤ l.length ∧ nameL l = i.toNat + nameL (l.drop i.toNat)) i_ → (a_ixR.at_ 0 ((fun (i : Int) => F_ixR l l.length i) i_)).holds s_ixR.cx a_ixR.rs (fun r => r.le (ri (ixN l))) := by
  refine loop_rule (a := a_ixR) (j := 0) (m := 400) s_ixR_sound (fun (i : Int) => F_ixR l l.length i) (fun (i : Int) => 0 ≤ i ∧ i ≤ l.length ∧ nameL l = i.toNat + nameL (l.drop i.toNat)) (fun (i : Int) => ((l.length : Int) - i).toNat) ?_
  rintro i h_inv ih
  try dsimp only at h_inv
  show VC.holds _ _ _ (a_ixR.round s_ixR 400 0 (F_ixR l l.length i))
  rw [t_ixR0]
  try simp only [asRows_sl, asInt_int, asBool_bool, asStr_str, listOf_rowsOn, List.drop_zero, Prg.eta, Sta.eta, rowsOn_length, getD_drop, Nat.reduceAdd, rd_int, rd_PMem_name, rd_PMem_secret, rd_PMem_n, rd_PLabel_name, rd_PLabel_at_, rd_Ins_kind, rd_Ins_op, rd_Ins_d, rd_Ins_aR, rd_Ins_aN, rd_Ins_bR, rd_Ins_bN, rd_Ins_name, rd_Ins_target, rd_Ent_pc, rd_Ent_val, rd_Ent_addr, rd_Ent_fro, rd_Ent_next, rd_Ent_done, rd_Ent_known, rd_Ent_fault, rd_Place_reg, rd_Place_n, rd_Place_secret, rd_Obs_kind, rd_Obs_at_, rd_Dir_kind, rd_Dir_n, rd_Rn_v, rd_Tok_kind, rd_Tok_text, rd_Tok_n, rd_Tok_at_]
  obtain ⟨h0, h1, h2⟩ := h_inv
  refine br_dec (fun hd => ?_) (fun hd => ?_)
  · rw [nameL_drop l h0 hd] at h2
    refine ⟨rn_ok l i h0 hd, rn_sh l i h0 hd, PreOk.mk trivial rfl, br_not (br_holds (fun hb => ?_) (fun hb => ?_))⟩
    · rw [if_pos hb] at h2
      rw [wrap_small (i + 1) (by omega) (by omega)]
      exact ih _ ⟨by omega, by omega, by omega⟩ (by omega)
    · rw [if_neg (by rw [hb]; simp)] at h2
      have e : ixN l = i := by unfold ixN; rw [if_neg (by omega)]; omega
      rw [e]
      exact ret_le (RR.le_refl _)
  · rw [drop_end l i (by omega)] at h2
    have e : ixN l = -1 := by unfold ixN; rw [if_pos (by rw [h2]; show i.toNat + 0 = _; omega)]
    rw [e]
    exact ret_le (RR.le_refl _)
theorem c_ixR_good : c_ixR.fe.Good Try.prog := by
  refine FT.good c_ixR ⟨Try.f109, by kernel_rfl, by decide +kernel, by kernel_rfl⟩ (fun ⟨l, u⟩ => by first | rfl | simp [c_ixR, rrRef, ri, rb, rib, rR, riib3, Sta.fresh]) fun ⟨l, u⟩ hp => ?_
  refine acalls_le s_ixR_sound (fn := Try.f109) (a := a_ixR) (nargs := 2) (tbl := [(2, [0, 1, 7, 8])]) (by kernel_rfl) (by kernel_rfl) rfl (m := 400) ?_
  show VC.holds _ _ _ (a_ixR.start s_ixR 400 [aR l, aFn1])
  rw [t_ixR]
  try simp only [asRows_sl, asInt_int, asBool_bool, asStr_str, listOf_rowsOn, List.drop_zero, Prg.eta, Sta.eta, rowsOn_length, getD_drop, Nat.reduceAdd, rd_int, rd_PMem_name, rd_PMem_secret, rd_PMem_n, rd_PLabel_name, rd_PLabel_at_, rd_Ins_kind, rd_Ins_op, rd_Ins_d, rd_Ins_aR, rd_Ins_aN, rd_Ins_bR, rd_Ins_bN, rd_Ins_name, rd_Ins_target, rd_Ent_pc, rd_Ent_val, rd_Ent_addr, rd_Ent_fro, rd_Ent_next, rd_Ent_done, rd_Ent_known, rd_Ent_fault, rd_Place_reg, rd_Place_n, rd_Place_secret, rd_Obs_kind, rd_Obs_at_, rd_Dir_kind, rd_Dir_n, rd_Rn_v, rd_Tok_kind, rd_Tok_text, rd_Tok_n, rd_Tok_at_]
  try simp only [c_ixR] at hp
  exact l_ixR0 l hp 0 ⟨by omega, by omega, by simp⟩
noncomputable def v_ixR : List Rn × Unit → Int := fun x => ixN x.1
noncomputable def sh_ixR : Int → RR := fun i => ri i
theorem e_ixR (x : List Rn × Unit) : sh_ixR (v_ixR x) = c_ixR.ans x := rfl
def c_lName : FT (List Rn × Int) := ⟨93, fun x => [aR x.1, ai x.2], rdRI, fun x => x.1.length ≤ 1000000 ∧ 0 ≤ x.2 ∧ x.2 ≤ x.1.length, fun x => ri (x.2 + nameL (x.1.drop x.2.toNat)), false, fun x => by simp [aR, ai, rdRI]⟩
noncomputable def a_lName : FnA := (fnA Try.prog Try.f93 2 []).getD ⟨0, .skip, [], []⟩
noncomputable def s_lName : Sp := spT [c_ixR.gfe v_ixR sh_ixR e_ixR]
theorem s_lName_sound : s_lName.sound Try.prog := spT_sound fun e he => by
  simp only [List.mem_cons, List.not_mem_nil, or_false] at he
  rcases he with rfl
  · exact FT.gfe_good c_ixR_good
set_option maxRecDepth 100000 in
theorem t_lName (l : List Rn) (i : Int) : a_lName.start s_lName 400 [aR l, ai i] =
(VC.need ((List.all (rowsOn l) fun r ↦ List.length r == (1 : Nat)) = true ∧ (0 : Int) ≤ i ∧ i ≤ (↑(List.length (rowsOn l)) : Int) ∧ (↑(List.length (rowsOn l)) : Int) ≤ (↑(List.length (rowsOn l)) : Int))
(VC.need (PreOk c_ixR (listOf Rn (List.drop (Int.toNat i) (List.take (Int.toNat (↑(List.length (rowsOn l)) : Int)) (rowsOn l))), ()) [A.c (D.sl (List.drop (Int.toNat i) (List.take (Int.toNat (↑(List.length (rowsOn l)) : Int)) (rowsOn l)))), A.c (D.fn (110 : Nat) [])])
(VC.all (v_ixR (listOf Rn (List.drop (Int.toNat i) (List.take (Int.toNat (↑(List.length (rowsOn l)) : Int)) (rowsOn l))), ())) fun (y2 : Int) =>
(VC.br (decide (y2 < (0 : Int)))
 (VC.ret (some (RR.c (Rc.d (D.int IntKind.i64 (↑(List.length (rowsOn l)) : Int))))))
 (VC.ret (some (RR.c (Rc.d (D.int IntKind.i64 (IntKind.wrap IntKind.i64 (i + y2))))))))))) := by kernel_rfl
theorem c_lName_good : c_lName.fe.Good Try.prog := by
  refine FT.good c_lName ⟨Try.f93, by kernel_rfl, by decide +kernel, by kernel_rfl⟩ (fun ⟨l, i⟩ => by first | rfl | simp [c_lName, rrRef, ri, rb, rib, rR, riib3, Sta.fresh]) fun ⟨l, i⟩ hp => ?_
  refine acalls_le s_lName_sound (fn := Try.f93) (a := a_lName) (nargs := 2) (tbl := []) (by kernel_rfl) (by kernel_rfl) rfl (m := 400) ?_
  show VC.holds _ _ _ (a_lName.start s_lName 400 [aR l, ai i])
  rw [t_lName]
  try simp only [asRows_sl, asInt_int, asBool_bool, asStr_str, listOf_rowsOn, List.drop_zero, Prg.eta, Sta.eta, rowsOn_length, getD_drop, Nat.reduceAdd, rd_int, rd_PMem_name, rd_PMem_secret, rd_PMem_n, rd_PLabel_name, rd_PLabel_at_, rd_Ins_kind, rd_Ins_op, rd_Ins_d, rd_Ins_aR, rd_Ins_aN, rd_Ins_bR, rd_Ins_bN, rd_Ins_name, rd_Ins_target, rd_Ent_pc, rd_Ent_val, rd_Ent_addr, rd_Ent_fro, rd_Ent_next, rd_Ent_done, rd_Ent_known, rd_Ent_fault, rd_Place_reg, rd_Place_n, rd_Place_secret, rd_Obs_kind, rd_Obs_at_, rd_Dir_kind, rd_Dir_n, rd_Rn_v, rd_Tok_kind, rd_Tok_text, rd_Tok_n, rd_Tok_at_]
  try simp only [c_lName] at hp
  obtain ⟨hl, h0, h1⟩ := hp
  have et : List.drop i.toNat (List.take (Int.toNat (l.length : Int)) (rowsOn l)) = rowsOn (l.drop i.toNat) := by rw [Int.toNat_natCast, List.take_of_length_le (by simp), rowsOn_drop]
  simp only [et, listOf_rowsOn]
  have e : c_lName.ans (l, i) = ri (i + nameL (l.drop i.toNat)) := rfl
  rw [e]
  have hlen : (l.drop i.toNat).length = l.length - i.toNat := List.length_drop
  have hn := nameL_len (l.drop i.toNat)
  refine ⟨⟨rowsOn_all l 1 rfl, h0, h1, Int.le_refl _⟩, PreOk.mk (by dsimp only [c_ixR]; omega) rfl, all_holds fun y hy => ?_⟩
  replace hy : y = ixN (l.drop i.toNat) := hy
  unfold ixN at hy
  split at hy
  · subst hy
    refine br_dec (fun _ => ?_) (fun h => absurd (by decide) h)
    rw [show i + (nameL (l.drop i.toNat) : Int) = l.length by omega]
    exact ret_le (RR.le_refl _)
  · subst hy
    refine br_dec (fun h => absurd h (by omega)) (fun _ => ?_)
    rw [wrap_small _ (by omega) (by omega)]
    exact ret_le (RR.le_refl _)
noncomputable def v_lName : List Rn × Int → Int := fun x => x.2 + nameL (x.1.drop x.2.toNat)
noncomputable def sh_lName : Int → RR := fun i => ri i
theorem e_lName (x : List Rn × Int) : sh_lName (v_lName x) = c_lName.ans x := rfl
end Go.Proofs.Ytmhfhobaicklmaa.Ax
