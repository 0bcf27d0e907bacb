/- Several texts in one, in their order. -/
import Derived.Test.YtmmlolampgnamaaDoorPart1
import Derived.Test.YtmmlolampgnamaaDoorPart2
import Derived.Test.YtmmlolampgnamaaDoorAxZ
import Derived.Shelf.Strings.Builder1
import Derived.Shelf.Strings.Builder2
import Derived.Shelf.Strings.OnBuilder
import Derived.Shelf.Strconv.Itoa0
import Derived.Shelf.Strconv.Itoa1
import Derived.Shelf.LaysM
import Derived.Shelf.Strconv.Itoa2
import Derived.Shelf.Strconv.Itoa3
import Derived.Test.YtmmlolampgnamaaDoorProg
import Derived.Test.YtmmlolampgnamaaDoorAxLaw
import Derived.Tactics
import Derived.WalkKit
import Derived.Test.YtmmlolampgnamaaDoorAx24
section
/- The signs of a line: lexr's small functions. -/
namespace Go.Proofs.YtmmlolampgnamaaDoor.Ax
open Go.RowKit
set_option linter.unusedVariables false
set_option linter.unusedSimpArgs false
def at_ (s : ByteArray) : A := .c (.str s)
def ar (n : Int) : A := .c (.int .i32 n)
def aR (l : List Rn) : A := .c (.sl (rowsOn l))
def rR (l : List Rn) : RR := .c (.d (.sl (rowsOn l)))
def rdT1 : List A → ByteArray × Unit
  | [.c (.str s)] => (s, ())
  | _ => default
def c_lRunes : FT (ByteArray × Unit) := ⟨25, fun x => [at_ x.1], rdT1, fun x => x.1.size ≤ 1000000, fun x => rR (runesS x.1), true, fun x => by simp [at_, rdT1]⟩
noncomputable def a_lRunes : FnA := (fnA Tryd.prog Tryd.f25 1 [(3, [3, 7, 1000003000000900001001])]).getD ⟨0, .skip, [], []⟩
def s_lRunes : Sp := spT []
theorem s_lRunes_sound : s_lRunes.sound Tryd.prog := spT_sound fun e he => by cases he
def F_run (s : ByteArray) (i n : Nat) (R : List (List D)) : St := ⟨mkS 16 [(3, vo 900001 n), (7, vp 448)], [(448, ⟨1, false, .iter s i⟩), (900001, ba 1 R)]⟩
set_option maxRecDepth 100000 in
theorem t_lRunes (s : ByteArray) : a_lRunes.start s_lRunes 400 [at_ s] =
(FnA.at_ a_lRunes 0 (F_run s (0 : Nat) (0 : Nat) [])) := by kernel_rfl
set_option maxRecDepth 100000 in
theorem t_lRun0 (s : ByteArray) (i n : Nat) (R : List (List D)) : a_lRunes.round s_lRunes 400 0 (F_run s i n R) =
(VC.br (decide (i < ByteArray.size s))
 (VC.need ((List.all [[D.int IntKind.i32 (↑(Utf8.decode s i).fst : Int)]] fun r ↦ List.length r == (1 : Nat)) = true ∧ (List.all R fun r ↦ List.length r == (1 : Nat)) = true ∧ (List.length R + List.length [[D.int IntKind.i32 (↑(Utf8.decode s i).fst : Int)]] + (100 : Nat)) * (5 : Nat) ≤ (70368744177664 : Nat))
 (FnA.at_ a_lRunes 0 (F_run s (i + (Utf8.decode s i).snd) (List.length R + List.length [[D.int IntKind.i32 (↑(Utf8.decode s i).fst : Int)]]) (R ++ [[D.int IntKind.i32 (↑(Utf8.decode s i).fst : Int)]]))))
 (VC.ret (some (RR.c (Rc.new (1 : Nat) R))))) := by kernel_rfl
theorem l_lRun0 (s : ByteArray) (fin : List Rn) (hf : fin.length ≤ 1000000) : ∀ i_ : Nat × Nat × List (List D), (fun (v : Nat × Nat × List (List D)) => ∃ acc : List Rn, OnL v.2.2 v.2.1 acc ∧ acc ++ runesAt s v.1 = fin) i_ → (a_lRunes.at_ 0 ((fun (v : Nat × Nat × List (List D)) => F_run s v.1 v.2.1 v.2.2) i_)).holds s_lRunes.cx a_lRunes.rs (fun r => r.data.le (rR fin)) := by
  refine loop_rule (a := a_lRunes) (j := 0) (m := 400) s_lRunes_sound (fun (v : Nat × Nat × List (List D)) => F_run s v.1 v.2.1 v.2.2) (fun (v : Nat × Nat × List (List D)) => ∃ acc : List Rn, OnL v.2.2 v.2.1 acc ∧ acc ++ runesAt s v.1 = fin) (fun (v : Nat × Nat × List (List D)) => s.size - v.1) ?_
  rintro ⟨i, n, R⟩ h_inv ih
  try dsimp only at h_inv
  replace ih := fun (v0 : Nat) (v1 : Nat) (v2 : List (List D)) => ih (v0, v1, v2)
  try dsimp only at ih
  show VC.holds _ _ _ (a_lRunes.round s_lRunes 400 0 (F_run s i n R))
  rw [t_lRun0]
  try simp only [asRows_sl, asInt_int, asBool_bool, asStr_str, listOf_rowsOn, List.drop_zero, Prg.eta, Sta.eta, rowsOn_length, getD_drop, Nat.reduceAdd, rd_int, rd_PMem_name, rd_PMem_secret, rd_PMem_n, rd_PLabel_name, rd_PLabel_at_, rd_Ins_kind, rd_Ins_op, rd_Ins_d, rd_Ins_aR, rd_Ins_aN, rd_Ins_bR, rd_Ins_bN, rd_Ins_name, rd_Ins_target, rd_Ent_pc, rd_Ent_val, rd_Ent_addr, rd_Ent_fro, rd_Ent_next, rd_Ent_done, rd_Ent_known, rd_Ent_fault, rd_Place_reg, rd_Place_n, rd_Place_secret, rd_Obs_kind, rd_Obs_at_, rd_Dir_kind, rd_Dir_n, rd_Rn_v, rd_Tok_kind, rd_Tok_text, rd_Tok_n, rd_Tok_at_]
  obtain ⟨acc, h1, h2⟩ := h_inv
  have hl : acc.length ≤ fin.length := by rw [← h2, List.length_append]; omega
  have hp := decode_pos s i
  refine br_dec (fun hd => ?_) (fun hd => ret_leD ?_)
  · refine ⟨app_ok h1 rfl rfl (by simp only [List.length_cons, List.length_nil]; omega), ih _ _ _ ⟨acc ++ [⟨((Utf8.decode s i).1 : Int)⟩], h1.snoc (⟨((Utf8.decode s i).1 : Int)⟩ : Rn), ?_⟩ (by omega)⟩
    rw [List.append_assoc, ← h2, runesAt_lt s i hd]; rfl
  · rw [runesAt_ge s i (by omega), List.append_nil] at h2
    rw [h1.1, h2]; exact RR.le_refl _
theorem c_lRunes_good : c_lRunes.fe.Good Tryd.prog := by
  refine FT.good c_lRunes ⟨Tryd.f25, by kernel_rfl, by decide +kernel, by kernel_rfl⟩ (fun ⟨s, u⟩ => by first | rfl | simp [c_lRunes, rrRef, ri, rb, rib, rR, Sta.fresh]) fun ⟨s, u⟩ hp => ?_
  refine acalls_leD s_lRunes_sound (fn := Tryd.f25) (a := a_lRunes) (nargs := 1) (tbl := [(3, [3, 7, 1000003000000900001001])]) (by kernel_rfl) (by kernel_rfl) rfl (m := 400) ?_
  show VC.holds _ _ _ (a_lRunes.start s_lRunes 400 [at_ s])
  rw [t_lRunes]
  try simp only [asRows_sl, asInt_int, asBool_bool, asStr_str, listOf_rowsOn, List.drop_zero, Prg.eta, Sta.eta, rowsOn_length, getD_drop, Nat.reduceAdd, rd_int, rd_PMem_name, rd_PMem_secret, rd_PMem_n, rd_PLabel_name, rd_PLabel_at_, rd_Ins_kind, rd_Ins_op, rd_Ins_d, rd_Ins_aR, rd_Ins_aN, rd_Ins_bR, rd_Ins_bN, rd_Ins_name, rd_Ins_target, rd_Ent_pc, rd_Ent_val, rd_Ent_addr, rd_Ent_fro, rd_Ent_next, rd_Ent_done, rd_Ent_known, rd_Ent_fault, rd_Place_reg, rd_Place_n, rd_Place_secret, rd_Obs_kind, rd_Obs_at_, rd_Dir_kind, rd_Dir_n, rd_Rn_v, rd_Tok_kind, rd_Tok_text, rd_Tok_n, rd_Tok_at_]
  try simp only [c_lRunes] at hp
  have hs : s.size ≤ 1000000 := hp
  have := runesS_len s
  exact l_lRun0 s (runesS s) (by omega) (0, _, _) ⟨[], OnL.nil, rfl⟩
noncomputable def v_lRunes : ByteArray × Unit → List Rn := fun x => runesS x.1
noncomputable def sh_lRunes : List Rn → RR := fun l => rR l
theorem e_lRunes (x : ByteArray × Unit) : sh_lRunes (v_lRunes x) = c_lRunes.ans x := rfl
def rdR1 : List A → Int
  | [.c (.int _ a)] => a
  | _ => 0
def c_lLet : FT Int := ⟨46, fun x => [ar x], rdR1, fun _ => True, fun x => rb (isLet x), false, fun x => rfl⟩
noncomputable def a_lLet : FnA := (fnA Tryd.prog Tryd.f46 1 []).getD ⟨0, .skip, [], []⟩
def s_lLet : Sp := spT []
theorem s_lLet_sound : s_lLet.sound Tryd.prog := spT_sound fun e he => by cases he
set_option maxRecDepth 100000 in
theorem t_lLet (n : Int) : a_lLet.start s_lLet 400 [ar n] =
(VC.br (decide ((97 : Int) ≤ n))
 (VC.ret (some (RR.c (Rc.d (D.bool (decide (n ≤ (122 : Int))))))))
 (VC.ret (some (RR.c (Rc.d (D.bool false)))))) := by kernel_rfl
theorem c_lLet_good : c_lLet.fe.Good Tryd.prog := by
  refine FT.good c_lLet ⟨Tryd.f46, by kernel_rfl, by decide +kernel, by kernel_rfl⟩ (fun n => by first | rfl | simp [c_lLet, rrRef, ri, rb, rib, rR, Sta.fresh]) fun n hp => ?_
  refine acalls_le s_lLet_sound (fn := Tryd.f46) (a := a_lLet) (nargs := 1) (tbl := []) (by kernel_rfl) (by kernel_rfl) rfl (m := 400) ?_
  show VC.holds _ _ _ (a_lLet.start s_lLet 400 [ar n])
  rw [t_lLet]
  try simp only [asRows_sl, asInt_int, asBool_bool, asStr_str, listOf_rowsOn, List.drop_zero, Prg.eta, Sta.eta, rowsOn_length, getD_drop, Nat.reduceAdd, rd_int, rd_PMem_name, rd_PMem_secret, rd_PMem_n, rd_PLabel_name, rd_PLabel_at_, rd_Ins_kind, rd_Ins_op, rd_Ins_d, rd_Ins_aR, rd_Ins_aN, rd_Ins_bR, rd_Ins_bN, rd_Ins_name, rd_Ins_target, rd_Ent_pc, rd_Ent_val, rd_Ent_addr, rd_Ent_fro, rd_Ent_next, rd_Ent_done, rd_Ent_known, rd_Ent_fault, rd_Place_reg, rd_Place_n, rd_Place_secret, rd_Obs_kind, rd_Obs_at_, rd_Dir_kind, rd_Dir_n, rd_Rn_v, rd_Tok_kind, rd_Tok_text, rd_Tok_n, rd_Tok_at_]
  try simp only [c_lLet] at hp
  have e : c_lLet.ans n = rb (isLet n) := rfl
  rw [e]
  unfold isLet
  repeat' first
    | refine br_not ?_
    | refine br_dec (fun _ => ?_) (fun _ => ?_)
    | refine br_beq (fun _ => ?_) (fun _ => ?_)
    | refine br_bne (fun _ => ?_) (fun _ => ?_)
    | refine br_holds (fun _ => ?_) (fun _ => ?_)
    | refine ⟨PreOk.mk ?_ rfl, ?_⟩
    | refine ⟨idx_ok _ _ _ rfl (by omega) (by omega), ?_⟩
    | refine ⟨okSh_ok _ _ _ (fun _ => rfl) (by omega) (by omega), ?_⟩
    | refine ⟨okSh_okD _ _ _ _ (fun _ => rfl) (by omega) (by omega), ?_⟩
    | refine ⟨aload_ok _ _ rfl (fun _ => rfl) (by omega) (by omega), ?_⟩
    | refine ⟨aload_okD _ _ _ rfl (fun _ => rfl) (by omega) (by omega), ?_⟩
    | refine ⟨astore_ok (by assumption) rfl (by omega) (by omega) (by decide), ?_⟩
    | refine ⟨app_ok (by assumption) rfl rfl (by simp only [List.length_cons, List.length_nil]; omega), ?_⟩
    | refine need_holds ?_ fun _ => ?_
    | refine all_holds fun y hy => ?_
    | refine ret_le ?_
  · rename_i h; rw [decide_eq_true h, Bool.true_and]; exact RR.le_refl _
  · rename_i h; rw [decide_eq_false h, Bool.false_and]; exact RR.le_refl _
noncomputable def v_lLet : Int → Bool := fun x => isLet x
noncomputable def sh_lLet : Bool → RR := fun b => rb b
theorem e_lLet (x : Int) : sh_lLet (v_lLet x) = c_lLet.ans x := rfl
def c_lDig : FT Int := ⟨45, fun x => [ar x], rdR1, fun _ => True, fun x => rb (isDig x), false, fun x => rfl⟩
noncomputable def a_lDig : FnA := (fnA Tryd.prog Tryd.f45 1 []).getD ⟨0, .skip, [], []⟩
def s_lDig : Sp := spT []
theorem s_lDig_sound : s_lDig.sound Tryd.prog := spT_sound fun e he => by cases he
set_option maxRecDepth 100000 in
theorem t_lDig (n : Int) : a_lDig.start s_lDig 400 [ar n] =
(VC.br (decide ((48 : Int) ≤ n))
 (VC.ret (some (RR.c (Rc.d (D.bool (decide (n ≤ (57 : Int))))))))
 (VC.ret (some (RR.c (Rc.d (D.bool false)))))) := by kernel_rfl
theorem c_lDig_good : c_lDig.fe.Good Tryd.prog := by
  refine FT.good c_lDig ⟨Tryd.f45, by kernel_rfl, by decide +kernel, by kernel_rfl⟩ (fun n => by first | rfl | simp [c_lDig, rrRef, ri, rb, rib, rR, Sta.fresh]) fun n hp => ?_
  refine acalls_le s_lDig_sound (fn := Tryd.f45) (a := a_lDig) (nargs := 1) (tbl := []) (by kernel_rfl) (by kernel_rfl) rfl (m := 400) ?_
  show VC.holds _ _ _ (a_lDig.start s_lDig 400 [ar n])
  rw [t_lDig]
  try simp only [asRows_sl, asInt_int, asBool_bool, asStr_str, listOf_rowsOn, List.drop_zero, Prg.eta, Sta.eta, rowsOn_length, getD_drop, Nat.reduceAdd, rd_int, rd_PMem_name, rd_PMem_secret, rd_PMem_n, rd_PLabel_name, rd_PLabel_at_, rd_Ins_kind, rd_Ins_op, rd_Ins_d, rd_Ins_aR, rd_Ins_aN, rd_Ins_bR, rd_Ins_bN, rd_Ins_name, rd_Ins_target, rd_Ent_pc, rd_Ent_val, rd_Ent_addr, rd_Ent_fro, rd_Ent_next, rd_Ent_done, rd_Ent_known, rd_Ent_fault, rd_Place_reg, rd_Place_n, rd_Place_secret, rd_Obs_kind, rd_Obs_at_, rd_Dir_kind, rd_Dir_n, rd_Rn_v, rd_Tok_kind, rd_Tok_text, rd_Tok_n, rd_Tok_at_]
  try simp only [c_lDig] at hp
  have e : c_lDig.ans n = rb (isDig n) := rfl
  rw [e]
  unfold isDig
  repeat' first
    | refine br_not ?_
    | refine br_dec (fun _ => ?_) (fun _ => ?_)
    | refine br_beq (fun _ => ?_) (fun _ => ?_)
    | refine br_bne (fun _ => ?_) (fun _ => ?_)
    | refine br_holds (fun _ => ?_) (fun _ => ?_)
    | refine ⟨PreOk.mk ?_ rfl, ?_⟩
    | refine ⟨idx_ok _ _ _ rfl (by omega) (by omega), ?_⟩
    | refine ⟨okSh_ok _ _ _ (fun _ => rfl) (by omega) (by omega), ?_⟩
    | refine ⟨okSh_okD _ _ _ _ (fun _ => rfl) (by omega) (by omega), ?_⟩
    | refine ⟨aload_ok _ _ rfl (fun _ => rfl) (by omega) (by omega), ?_⟩
    | refine ⟨aload_okD _ _ _ rfl (fun _ => rfl) (by omega) (by omega), ?_⟩
    | refine ⟨astore_ok (by assumption) rfl (by omega) (by omega) (by decide), ?_⟩
    | refine ⟨app_ok (by assumption) rfl rfl (by simp only [List.length_cons, List.length_nil]; omega), ?_⟩
    | refine need_holds ?_ fun _ => ?_
    | refine all_holds fun y hy => ?_
    | refine ret_le ?_
  · rename_i h; rw [decide_eq_true h, Bool.true_and]; exact RR.le_refl _
  · rename_i h; rw [decide_eq_false h, Bool.false_and]; exact RR.le_refl _
noncomputable def v_lDig : Int → Bool := fun x => isDig x
noncomputable def sh_lDig : Bool → RR := fun b => rb b
theorem e_lDig (x : Int) : sh_lDig (v_lDig x) = c_lDig.ans x := rfl
def rdRI2 : List A → List Rn × Int × Nat
  | [.c (.sl l), .c (.int _ a), .c (.int _ m)] => (listOf Rn l, a, m.toNat)
  | _ => default
def riib3 (x : Int × Int × Bool) : RR := .tup [.inl (.d (.int .i64 x.1)), .inl (.d (.int .i64 x.2.1)), .inl (.d (.bool x.2.2))]
def c_lNum : FT (List Rn × Int × Nat) := ⟨26, fun x => [aR x.1, ai x.2.1, ai x.2.2], rdRI2, fun x => x.1.length ≤ 1000000 ∧ 0 ≤ x.2.1 ∧ x.2.1 ≤ 1000000 ∧ x.2.2 ≤ 9, fun x => riib3 (numS x.1 x.2.1 x.2.2), false, fun x => by simp [aR, ai, rdRI2]⟩
noncomputable def a_lNum : FnA := (fnA Tryd.prog Tryd.f26 3 [(6, [0, 1, 2, 9, 10])]).getD ⟨0, .skip, [], []⟩
noncomputable def s_lNum : Sp := spT [c_lDig.gfe v_lDig sh_lDig e_lDig]
theorem s_lNum_sound : s_lNum.sound Tryd.prog := spT_sound fun e he => by
  simp only [List.mem_cons, List.not_mem_nil, or_false] at he
  rcases he with rfl
  · exact FT.gfe_good c_lDig_good
def F_num (l : List Rn) (m : Nat) (n a i : Int) : St := ⟨mkS 63 [(0, vr (rowsOn l)), (1, vi a), (2, vi m), (9, vi n), (10, vi i)], []⟩
set_option maxRecDepth 100000 in
theorem t_lNum (l : List Rn) (i : Int) (m : Nat) : a_lNum.start s_lNum 400 [aR l, ai i, ai m] =
(VC.br (decide ((↑(List.length (rowsOn l)) : Int) ≤ i))
 (VC.ret (some (RR.tup [Sum.inl (Rc.d (D.int IntKind.i64 (0 : Int))), Sum.inl (Rc.d (D.int IntKind.i64 i)), Sum.inl (Rc.d (D.bool false))])))
 (VC.need ((0 : Int) ≤ i ∧ i < (↑(List.length (rowsOn l)) : Int) ∧ List.length (rowAt (rowsOn l) (Int.toNat i)) = (1 : Nat))
 (VC.need (okSh [Kd.int IntKind.i32] (rowAt (rowsOn l) (Int.toNat i)))
 (VC.need (PreOk c_lDig (asInt (List.getD (rowAt (rowsOn l) (Int.toNat i)) (0 : Nat) D.nilp)) [A.c (D.int IntKind.i32 (asInt (List.getD (rowAt (rowsOn l) (Int.toNat i)) (0 : Nat) D.nilp)))])
 (VC.all (v_lDig (asInt (List.getD (rowAt (rowsOn l) (Int.toNat i)) (0 : Nat) D.nilp))) fun (y3 : Bool) =>
 (VC.br (!y3)
  (VC.ret (some (RR.tup [Sum.inl (Rc.d (D.int IntKind.i64 (0 : Int))), Sum.inl (Rc.d (D.int IntKind.i64 i)), Sum.inl (Rc.d (D.bool false))])))
  (VC.need ((0 : Int) ≤ i ∧ i < (↑(List.length (rowsOn l)) : Int) ∧ List.length (rowAt (rowsOn l) (Int.toNat i)) = (1 : Nat))
  (VC.need (okSh [Kd.int IntKind.i32] (rowAt (rowsOn l) (Int.toNat i)))
  (VC.br (asInt (List.getD (rowAt (rowsOn l) (Int.toNat i)) (0 : Nat) D.nilp) == (48 : Int))
   (VC.ret (some (RR.tup [Sum.inl (Rc.d (D.int IntKind.i64 (0 : Int))), Sum.inl (Rc.d (D.int IntKind.i64 (IntKind.wrap IntKind.i64 (i + (1 : Int))))), Sum.inl (Rc.d (D.bool true))])))
   (FnA.at_ a_lNum 0 (F_num l m (0 : Int) i i))))))))))) := by kernel_rfl
set_option maxRecDepth 100000 in
theorem t_lNum0 (l : List Rn) (m : Nat) (n a i : Int) : a_lNum.round s_lNum 400 0 (F_num l m n a i) =
(VC.br (decide (a < (↑(List.length (rowsOn l)) : Int)))
 (VC.need ((0 : Int) ≤ a ∧ a < (↑(List.length (rowsOn l)) : Int) ∧ List.length (rowAt (rowsOn l) (Int.toNat a)) = (1 : Nat))
 (VC.need (okSh [Kd.int IntKind.i32] (rowAt (rowsOn l) (Int.toNat a)))
 (VC.need (PreOk c_lDig (asInt (List.getD (rowAt (rowsOn l) (Int.toNat a)) (0 : Nat) D.nilp)) [A.c (D.int IntKind.i32 (asInt (List.getD (rowAt (rowsOn l) (Int.toNat a)) (0 : Nat) D.nilp)))])
 (VC.all (v_lDig (asInt (List.getD (rowAt (rowsOn l) (Int.toNat a)) (0 : Nat) D.nilp))) fun (y5 : Bool) =>
 (VC.br (y5)
  (VC.br (decide (IntKind.wrap IntKind.i64 (a - i) < (↑m : Int)))
   (VC.need ((0 : Int) ≤ a ∧ a < (↑(List.length (rowsOn l)) : Int) ∧ List.length (rowAt (rowsOn l) (Int.toNat a)) = (1 : Nat))
   (VC.need (okSh [Kd.int IntKind.i32] (rowAt (rowsOn l) (Int.toNat a)))
   (FnA.at_ a_lNum 0 (F_num l m (IntKind.wrap IntKind.i64 (IntKind.wrap IntKind.i64 ((10 : Int) * n) + IntKind.wrap IntKind.i64 (IntKind.wrap IntKind.i32 (asInt (List.getD (rowAt (rowsOn l) (Int.toNat a)) (0 : Nat) D.nilp) - (48 : Int))))) (IntKind.wrap IntKind.i64 (a + (1 : Int))) i))))
   (VC.ret (some (RR.tup [Sum.inl (Rc.d (D.int IntKind.i64 n)), Sum.inl (Rc.d (D.int IntKind.i64 a)), Sum.inl (Rc.d (D.bool true))]))))
  (VC.ret (some (RR.tup [Sum.inl (Rc.d (D.int IntKind.i64 n)), Sum.inl (Rc.d (D.int IntKind.i64 a)), Sum.inl (Rc.d (D.bool true))]))))))))
 (VC.ret (some (RR.tup [Sum.inl (Rc.d (D.int IntKind.i64 n)), Sum.inl (Rc.d (D.int IntKind.i64 a)), Sum.inl (Rc.d (D.bool true))])))) := by kernel_rfl
theorem ten_pow {k : Nat} (h : k ≤ 9) : (10 : Int) ^ k ≤ 1000000000 := by
  have h1 : (10 : Nat) ^ k ≤ 10 ^ 9 := Nat.pow_le_pow_right (by decide) h
  have h2 : (((10 : Nat) ^ k : Nat) : Int) = (10 : Int) ^ k := by simp
  omega
theorem rn_ok (l : List Rn) (k : Int) (h0 : 0 ≤ k) (h : k < l.length) : 0 ≤ k ∧ k < (l.length : Int) ∧ (rowAt (rowsOn l) k.toNat).length = 1 := ⟨h0, h, by rw [rowAt_on l k h0 h]; rfl⟩
theorem rn_sh (l : List Rn) (k : Int) (h0 : 0 ≤ k) (h : k < l.length) : okSh [Kd.int IntKind.i32] (rowAt (rowsOn l) k.toNat) := okSh_ok _ l k (fun _ => rfl) h0 h
theorem l_lNum0 (l : List Rn) (m : Nat) (i : Int) (fin : Int × Int) (hl : l.length ≤ 1000000) (hi : 0 ≤ i) (hm : m ≤ 9) (hi2 : i ≤ 1000000) : ∀ i_ : Int × Int, (fun (v : Int × Int) => ∃ k : Nat, v.2 = i + k ∧ k ≤ m ∧ 0 ≤ v.1 ∧ v.1 < (10 : Int) ^ k ∧ (digF (l.drop v.2.toNat) (m - k) v.1).1 = fin.1 ∧ v.2 + (digF (l.drop v.2.toNat) (m - k) v.1).2 = fin.2) i_ → (a_lNum.at_ 0 ((fun (v : Int × Int) => F_num l m v.1 v.2 i) i_)).holds s_lNum.cx a_lNum.rs (fun r => r.le (riib3 (fin.1, fin.2, true))) := by
  refine loop_rule (a := a_lNum) (j := 0) (m := 400) s_lNum_sound (fun (v : Int × Int) => F_num l m v.1 v.2 i) (fun (v : Int × Int) => ∃ k : Nat, v.2 = i + k ∧ k ≤ m ∧ 0 ≤ v.1 ∧ v.1 < (10 : Int) ^ k ∧ (digF (l.drop v.2.toNat) (m - k) v.1).1 = fin.1 ∧ v.2 + (digF (l.drop v.2.toNat) (m - k) v.1).2 = fin.2) (fun (v : Int × Int) => ((l.length : Int) - v.2).toNat) ?_
  rintro ⟨n, a⟩ h_inv ih
  try dsimp only at h_inv
  replace ih := fun (v0 : Int) (v1 : Int) => ih (v0, v1)
  try dsimp only at ih
  show VC.holds _ _ _ (a_lNum.round s_lNum 400 0 (F_num l m n a i))
  rw [t_lNum0]
  try simp only [asRows_sl, asInt_int, asBool_bool, asStr_str, listOf_rowsOn, List.drop_zero, Prg.eta, Sta.eta, rowsOn_length, getD_drop, Nat.reduceAdd, rd_int, rd_PMem_name, rd_PMem_secret, rd_PMem_n, rd_PLabel_name, rd_PLabel_at_, rd_Ins_kind, rd_Ins_op, rd_Ins_d, rd_Ins_aR, rd_Ins_aN, rd_Ins_bR, rd_Ins_bN, rd_Ins_name, rd_Ins_target, rd_Ent_pc, rd_Ent_val, rd_Ent_addr, rd_Ent_fro, rd_Ent_next, rd_Ent_done, rd_Ent_known, rd_Ent_fault, rd_Place_reg, rd_Place_n, rd_Place_secret, rd_Obs_kind, rd_Obs_at_, rd_Dir_kind, rd_Dir_n, rd_Rn_v, rd_Tok_kind, rd_Tok_text, rd_Tok_n, rd_Tok_at_]
  obtain ⟨k, e1, k1, n0, n1, h1, h2⟩ := h_inv
  have hk := ten_pow (k := k) (by omega)
  have ret : (digF (l.drop a.toNat) (m - k) n) = (n, 0) → (VC.ret (some (RR.tup [Sum.inl (Rc.d (D.int IntKind.i64 n)), Sum.inl (Rc.d (D.int IntKind.i64 a)), Sum.inl (Rc.d (D.bool true))]))).holds s_lNum.cx a_lNum.rs fun r => r.le (riib3 (fin.1, fin.2, true)) := fun e => ret_le (by
    rw [e] at h1 h2
    have h1 : n = fin.1 := h1
    have h2 : a + 0 = fin.2 := h2
    rw [← h1, ← h2, Int.add_zero]
    exact RR.le_refl _)
  refine br_dec (fun hd => ?_) (fun hd => ret ?_)
  · have a0 : 0 ≤ a := by omega
    rw [drop_rn l a a0 hd] at h1 h2 ret
    refine ⟨rn_ok l a a0 hd, rn_sh l a a0 hd, PreOk.mk trivial rfl, all_holds fun y hy => br_holds (fun hg => ?_) (fun hg => ret ?_)⟩
    · replace hy : y = isDig (rd l a).v := hy
      have hg1 : isDig (rd l a).v = true := by rw [← hy]; exact hg
      have hg2 := isDig_iff.1 hg1
      rw [wrap_small (a - i) (by omega) (by omega)]
      refine br_dec (fun hm2 => ?_) (fun hm2 => ret ?_)
      · obtain ⟨q, hq⟩ : ∃ q, m - k = q + 1 := ⟨m - k - 1, by omega⟩
        rw [wrap_small32 _ (by omega) (by omega), wrap_small ((rd l a).v - 48) (by omega) (by omega), wrap_small (10 * n) (by omega) (by omega), wrap_small (10 * n + ((rd l a).v - 48)) (by omega) (by omega), wrap_small (a + 1) (by omega) (by omega)]
        refine ⟨rn_ok l a a0 hd, rn_sh l a a0 hd, ih _ _ ⟨k + 1, by omega, by omega, by omega, ?_, ?_, ?_⟩ (by omega)⟩
        · rw [Int.pow_succ]; omega
        · rw [hq] at h1
          unfold digF at h1
          rw [if_pos hg1] at h1
          rw [show m - (k + 1) = q by omega]
          exact h1
        · rw [hq] at h2
          unfold digF at h2
          rw [if_pos hg1] at h2
          rw [show m - (k + 1) = q by omega]
          dsimp only at h2 ⊢
          omega
      · rw [show m - k = 0 by omega]; rfl
    · replace hy : y = isDig (rd l a).v := hy
      have hg1 : ¬ isDig (rd l a).v = true := by rw [← hy, hg]; simp
      exact digF_stop hg1 _ _ _
  · rw [drop_end l a (by omega)]
    cases m - k <;> rfl
theorem c_lNum_good : c_lNum.fe.Good Tryd.prog := by
  refine FT.good c_lNum ⟨Tryd.f26, by kernel_rfl, by decide +kernel, by kernel_rfl⟩ (fun ⟨l, i, m⟩ => by first | rfl | simp [c_lNum, rrRef, ri, rb, rib, rR, riib3, Sta.fresh]) fun ⟨l, i, m⟩ hp => ?_
  refine acalls_le s_lNum_sound (fn := Tryd.f26) (a := a_lNum) (nargs := 3) (tbl := [(6, [0, 1, 2, 9, 10])]) (by kernel_rfl) (by kernel_rfl) rfl (m := 400) ?_
  show VC.holds _ _ _ (a_lNum.start s_lNum 400 [aR l, ai i, ai m])
  rw [t_lNum]
  try simp only [asRows_sl, asInt_int, asBool_bool, asStr_str, listOf_rowsOn, List.drop_zero, Prg.eta, Sta.eta, rowsOn_length, getD_drop, Nat.reduceAdd, rd_int, rd_PMem_name, rd_PMem_secret, rd_PMem_n, rd_PLabel_name, rd_PLabel_at_, rd_Ins_kind, rd_Ins_op, rd_Ins_d, rd_Ins_aR, rd_Ins_aN, rd_Ins_bR, rd_Ins_bN, rd_Ins_name, rd_Ins_target, rd_Ent_pc, rd_Ent_val, rd_Ent_addr, rd_Ent_fro, rd_Ent_next, rd_Ent_done, rd_Ent_known, rd_Ent_fault, rd_Place_reg, rd_Place_n, rd_Place_secret, rd_Obs_kind, rd_Obs_at_, rd_Dir_kind, rd_Dir_n, rd_Rn_v, rd_Tok_kind, rd_Tok_text, rd_Tok_n, rd_Tok_at_]
  try simp only [c_lNum] at hp
  obtain ⟨hl, hi, hi2, hm⟩ := hp
  have e : c_lNum.ans (l, i, m) = riib3 (numS l i m) := rfl
  rw [e]
  unfold numS
  refine br_dec (fun hd => ?_) (fun hd => ?_)
  · rw [drop_end l i hd]; exact ret_le (RR.le_refl _)
  · rw [drop_rn l i hi (by omega)]
    refine ⟨rn_ok l i hi (by omega), rn_sh l i hi (by omega), PreOk.mk trivial rfl, all_holds fun y hy => br_not (br_holds (fun hg => ?_) (fun hg => ?_))⟩
    · replace hy : y = isDig (rd l i).v := hy
      have hg1 : isDig (rd l i).v = true := by rw [← hy]; exact hg
      unfold numL
      dsimp only
      rw [if_pos hg1]
      refine ⟨rn_ok l i hi (by omega), rn_sh l i hi (by omega), br_beq (fun h8 => ?_) (fun h8 => ?_)⟩
      · rw [if_pos h8, wrap_small (i + 1) (by omega) (by omega)]; exact ret_le (RR.le_refl _)
      · rw [if_neg h8]
        refine l_lNum0 l m i ((digF (rd l i :: l.drop (i + 1).toNat) m 0).1, i + ((digF (rd l i :: l.drop (i + 1).toNat) m 0).2 : Int)) hl hi hm hi2 (0, i) ⟨0, by dsimp only; omega, by omega, by dsimp only; omega, by dsimp only; omega, ?_, ?_⟩
        · dsimp only; rw [Nat.sub_zero, drop_rn l i hi (by omega)]
        · dsimp only; rw [Nat.sub_zero, drop_rn l i hi (by omega)]
    · replace hy : y = isDig (rd l i).v := hy
      have hg1 : ¬ isDig (rd l i).v = true := by rw [← hy, hg]; simp
      unfold numL
      dsimp only
      rw [if_neg hg1]
      exact ret_le (RR.le_refl _)
noncomputable def v_lNum : List Rn × Int × Nat → Int × Int × Bool := fun x => numS x.1 x.2.1 x.2.2
noncomputable def sh_lNum : Int × Int × Bool → RR := fun y => riib3 y
theorem e_lNum (x : List Rn × Int × Nat) : sh_lNum (v_lNum x) = c_lNum.ans x := rfl
def rdRI : List A → List Rn × Int
  | [.c (.sl l), .c (.int _ a)] => (listOf Rn l, a)
  | _ => default
def c_lAlone : FT (List Rn × Int) := ⟨27, fun x => [aR x.1, ai x.2], rdRI, fun x => 0 ≤ x.2, fun x => rb (aloneL (x.1.drop x.2.toNat)), false, fun x => by simp [aR, ai, rdRI]⟩
noncomputable def a_lAlone : FnA := (fnA Tryd.prog Tryd.f27 2 []).getD ⟨0, .skip, [], []⟩
noncomputable def s_lAlone : Sp := spT [c_lLet.gfe v_lLet sh_lLet e_lLet, c_lDig.gfe v_lDig sh_lDig e_lDig]
theorem s_lAlone_sound : s_lAlone.sound Tryd.prog := spT_sound fun e he => by
  simp only [List.mem_cons, List.not_mem_nil, or_false] at he
  rcases he with rfl | rfl
  · exact FT.gfe_good c_lLet_good
  · exact FT.gfe_good c_lDig_good
set_option maxRecDepth 100000 in
theorem t_lAlone (l : List Rn) (i : Int) : a_lAlone.start s_lAlone 400 [aR l, ai i] =
(VC.br (decide ((↑(List.length (rowsOn l)) : Int) ≤ i))
 (VC.ret (some (RR.c (Rc.d (D.bool true)))))
 (VC.need ((0 : Int) ≤ i ∧ i < (↑(List.length (rowsOn l)) : Int) ∧ List.length (rowAt (rowsOn l) (Int.toNat i)) = (1 : Nat))
 (VC.need (okSh [Kd.int IntKind.i32] (rowAt (rowsOn l) (Int.toNat i)))
 (VC.need (PreOk c_lLet (asInt (List.getD (rowAt (rowsOn l) (Int.toNat i)) (0 : Nat) D.nilp)) [A.c (D.int IntKind.i32 (asInt (List.getD (rowAt (rowsOn l) (Int.toNat i)) (0 : Nat) D.nilp)))])
 (VC.all (v_lLet (asInt (List.getD (rowAt (rowsOn l) (Int.toNat i)) (0 : Nat) D.nilp))) fun (y2 : Bool) =>
 (VC.br (!y2)
  (VC.need ((0 : Int) ≤ i ∧ i < (↑(List.length (rowsOn l)) : Int) ∧ List.length (rowAt (rowsOn l) (Int.toNat i)) = (1 : Nat))
  (VC.need (okSh [Kd.int IntKind.i32] (rowAt (rowsOn l) (Int.toNat i)))
  (VC.need (PreOk c_lDig (asInt (List.getD (rowAt (rowsOn l) (Int.toNat i)) (0 : Nat) D.nilp)) [A.c (D.int IntKind.i32 (asInt (List.getD (rowAt (rowsOn l) (Int.toNat i)) (0 : Nat) D.nilp)))])
  (VC.all (v_lDig (asInt (List.getD (rowAt (rowsOn l) (Int.toNat i)) (0 : Nat) D.nilp))) fun (y3 : Bool) =>
  (VC.ret (some (RR.c (Rc.d (D.bool !y3)))))))))
  (VC.ret (some (RR.c (Rc.d (D.bool false))))))))))) := by kernel_rfl
theorem c_lAlone_good : c_lAlone.fe.Good Tryd.prog := by
  refine FT.good c_lAlone ⟨Tryd.f27, by kernel_rfl, by decide +kernel, by kernel_rfl⟩ (fun ⟨l, i⟩ => by first | rfl | simp [c_lAlone, rrRef, ri, rb, rib, rR, riib3, Sta.fresh]) fun ⟨l, i⟩ hp => ?_
  refine acalls_le s_lAlone_sound (fn := Tryd.f27) (a := a_lAlone) (nargs := 2) (tbl := []) (by kernel_rfl) (by kernel_rfl) rfl (m := 400) ?_
  show VC.holds _ _ _ (a_lAlone.start s_lAlone 400 [aR l, ai i])
  rw [t_lAlone]
  try simp only [asRows_sl, asInt_int, asBool_bool, asStr_str, listOf_rowsOn, List.drop_zero, Prg.eta, Sta.eta, rowsOn_length, getD_drop, Nat.reduceAdd, rd_int, rd_PMem_name, rd_PMem_secret, rd_PMem_n, rd_PLabel_name, rd_PLabel_at_, rd_Ins_kind, rd_Ins_op, rd_Ins_d, rd_Ins_aR, rd_Ins_aN, rd_Ins_bR, rd_Ins_bN, rd_Ins_name, rd_Ins_target, rd_Ent_pc, rd_Ent_val, rd_Ent_addr, rd_Ent_fro, rd_Ent_next, rd_Ent_done, rd_Ent_known, rd_Ent_fault, rd_Place_reg, rd_Place_n, rd_Place_secret, rd_Obs_kind, rd_Obs_at_, rd_Dir_kind, rd_Dir_n, rd_Rn_v, rd_Tok_kind, rd_Tok_text, rd_Tok_n, rd_Tok_at_]
  try simp only [c_lAlone] at hp
  have hi : 0 ≤ i := hp
  have e : c_lAlone.ans (l, i) = rb (aloneL (l.drop i.toNat)) := rfl
  rw [e]
  refine br_dec (fun hd => ?_) (fun hd => ?_)
  · rw [drop_end l i hd]; exact ret_le (RR.le_refl _)
  · rw [drop_rn l i hi (by omega)]
    have ea : aloneL (rd l i :: l.drop (i + 1).toNat) = !(isLet (rd l i).v || isDig (rd l i).v) := rfl
    rw [ea]
    refine ⟨rn_ok l i hi (by omega), rn_sh l i hi (by omega), PreOk.mk trivial rfl, all_holds fun y hy => br_not (br_holds (fun h1 => ?_) (fun h1 => ?_))⟩
    · replace hy : y = isLet (rd l i).v := hy
      rw [← hy, h1]; exact ret_le (RR.le_refl _)
    · replace hy : y = isLet (rd l i).v := hy
      rw [← hy, h1, Bool.false_or]
      refine ⟨rn_ok l i hi (by omega), rn_sh l i hi (by omega), PreOk.mk trivial rfl, all_holds fun z hz => ?_⟩
      subst hz
      exact ret_le (RR.le_refl _)
noncomputable def v_lAlone : List Rn × Int → Bool := fun x => aloneL (x.1.drop x.2.toNat)
noncomputable def sh_lAlone : Bool → RR := fun b => rb b
theorem e_lAlone (x : List Rn × Int) : sh_lAlone (v_lAlone x) = c_lAlone.ans x := rfl
end Go.Proofs.YtmmlolampgnamaaDoor.Ax
end

section
/-
  DERIVED: THE SHELF's CONTRACTS AT THIS DUMP, IN PLAIN WORDS (tools/lay-plain.mjs out of 'TrydShelf.lean', which tools/lay-shelf.mjs wrote): THE SAME DECLARATIONS UNDER THE SAME NAMES: 'import', 'namespace', 'open', 'def', 'theorem' AND NOTHING ELSE: no command of the shelf's: FOR A HAND-IN. Each laying: the table of numbers ('.._ren') and one theorem, a field a fact of the dump's own or the kernel's comparison; each contract: ONE APPLICATION.
-/
namespace Go.Proofs
open Go.Shelf
def Tryd.lays169_ren : Go.Shelf.Ren := ⟨fun | 169 => 44 | n => n, fun | 70 => 78 | 9 => 9 | 0 => 0 | 72 => 80 | 37 => 41 | 127 => 90 | 3 => 3 | 5 => 5 | n => n, fun | n => n⟩
theorem Tryd.lays169 : Go.Proofs.Lays.n169 Tryd.prog Tryd.lays169_ren := {
  mixed := by kernel_rfl
  f169 := Tryd.func44.trans (congrArg some (by kernel_rfl))
  t0 := Tryd.underlying0
  a0 := Tryd.isAgg0
  z0 := Tryd.sizeOf0
  v0 := Tryd.zeroValue0
  t3 := Tryd.underlying3
  a3 := Tryd.isAgg3
  z3 := Tryd.sizeOf3
  v3 := Tryd.zeroValue3
  t9 := Tryd.underlying9
  a9 := Tryd.isAgg9
  z9 := Tryd.sizeOf9
  v9 := Tryd.zeroValue9
  t37 := Tryd.underlying41
  a37 := Tryd.isAgg41
  z37 := Tryd.sizeOf41
  v37 := Tryd.zeroValue41
  t70 := Tryd.underlying78
  a70 := Tryd.isAgg78
  z70 := Tryd.sizeOf78
  v70 := Tryd.zeroValue78
  t72 := Tryd.underlying80
  a72 := Tryd.isAgg80
  z72 := Tryd.sizeOf80
  v72 := Tryd.zeroValue80
  t127 := Tryd.underlying90
  a127 := Tryd.isAgg90
  z127 := Tryd.sizeOf90
  v127 := Tryd.zeroValue90 }
theorem Tryd.Builder_Extra_169 : Builder.Extra Tryd.prog Tryd.lays169_ren := {
  sizeBuilder := by kernel_rfl
  liesBuilder := by kernel_rfl
  t5 := Tryd.underlying5
  a5 := Tryd.isAgg5
  z5 := Tryd.sizeOf5
  v5 := Tryd.zeroValue5
  infoByte := by kernel_rfl
  cellsByte := by kernel_rfl
  sizeByte := by kernel_rfl
  neB5 := by decide }
open Go.RowKit in
/-- (*strings.Builder).String: "String returns the accumulated string.": OF A BUILDER THAT HOLDS AT LEAST ONE BYTE. ✋ THE MODEL FREEZES THOSE BYTES IN THE BUFFER (unsafe.String): a later write INTO them ends the model's run without an answer; a later append BEHIND them goes on. The statement's order of evaluation is drawn: one draw. (LAID: no walk: one application.) -/
theorem Tryd.Builder_String (B b : Nat) (l : List UInt8) (w : World) (h : Lib.IsBuilder 80 5 B b (Lib.byteCells l) w) (h0 : l ≠ []) :
    Calls Tryd.prog 44 #[.pointer (some ⟨b, 0, none⟩)] w fun e w' => e = .returned (.string ⟨l.toArray⟩) ∧ Below B w w' := Any.Builder_String Tryd.lays169 Tryd.Builder_Extra_169 B b l w h h0
open Go.RowKit in
/-- (*strings.Builder).String OF A BUILDER THAT HOLDS NO BYTE: the empty string. (Its buffer is nil, or a row of which it has taken nothing yet; where that row has NO capacity the model lays one new block for unsafe.SliceData's 'some address'.) One draw. (LAID: no walk: one application.) -/
theorem Tryd.Builder_String_empty (B b : Nat) (w : World) (h : Lib.IsBuilder 80 5 B b [] w) (hBw : B ≤ w.heap.size) :
    Calls Tryd.prog 44 #[.pointer (some ⟨b, 0, none⟩)] w fun e w' => e = .returned (.string ⟨#[]⟩) ∧ Below B w w' := Any.Builder_String_empty Tryd.lays169 Tryd.Builder_Extra_169 B b w h hBw
open Go.RowKit in
/-- (*strings.Builder).String: "String returns the accumulated string.": WHATEVER THE BUILDER HOLDS. (LAID: no walk: one application.) -/
theorem Tryd.Builder_String_any (B b : Nat) (l : List UInt8) (w : World) (h : Lib.IsBuilder 80 5 B b (Lib.byteCells l) w) (hBw : B ≤ w.heap.size) :
    Calls Tryd.prog 44 #[.pointer (some ⟨b, 0, none⟩)] w fun e w' => e = .returned (.string ⟨l.toArray⟩) ∧ Below B w w' := Any.Builder_String_any Tryd.lays169 Tryd.Builder_Extra_169 B b l w h hBw
def Tryd.lays241_ren : Go.Shelf.Ren := ⟨fun | 241 => 53 | 277 => 59 | n => n, fun | 70 => 78 | 3 => 3 | 0 => 0 | 72 => 80 | 37 => 41 | 5 => 5 | n => n, fun | n => n⟩
theorem Tryd.lays241 : Go.Proofs.Lays.n241 Tryd.prog Tryd.lays241_ren := {
  mixed := by kernel_rfl
  f241 := Tryd.func53.trans (congrArg some (by kernel_rfl))
  f277 := Tryd.func59.trans (congrArg some (by kernel_rfl))
  t0 := Tryd.underlying0
  a0 := Tryd.isAgg0
  z0 := Tryd.sizeOf0
  v0 := Tryd.zeroValue0
  t3 := Tryd.underlying3
  a3 := Tryd.isAgg3
  z3 := Tryd.sizeOf3
  v3 := Tryd.zeroValue3
  t37 := Tryd.underlying41
  a37 := Tryd.isAgg41
  z37 := Tryd.sizeOf41
  v37 := Tryd.zeroValue41
  t70 := Tryd.underlying78
  a70 := Tryd.isAgg78
  z70 := Tryd.sizeOf78
  v70 := Tryd.zeroValue78
  t72 := Tryd.underlying80
  a72 := Tryd.isAgg80
  z72 := Tryd.sizeOf80
  v72 := Tryd.zeroValue80 }
theorem Tryd.Builder_Extra_241 : Builder.Extra Tryd.prog Tryd.lays241_ren := {
  sizeBuilder := by kernel_rfl
  liesBuilder := by kernel_rfl
  t5 := Tryd.underlying5
  a5 := Tryd.isAgg5
  z5 := Tryd.sizeOf5
  v5 := Tryd.zeroValue5
  infoByte := by kernel_rfl
  cellsByte := by kernel_rfl
  sizeByte := by kernel_rfl
  neB5 := by decide }
open Go.RowKit in
/-- (*strings.Builder).grow (no doc but "grow copies the buffer to a new, larger buffer so that there are at least n bytes of capacity beyond len(b.buf)."): AT A BUILDER WITHOUT A BUFFER: a new row of whatever bytes for its buffer, none of them its own yet. Three draws. (LAID: no walk: one application.) -/
theorem Tryd.Builder_grow_fresh (B b n : Nat) (w : World) (hB : B ≤ b) (hbk : w.heap[b]? = some (.cells #[.pointer (some ⟨b, 0, none⟩), .slice none 0 0] 80 (0, 0))) (hBw : B ≤ w.heap.size) (hn : n ≤ 281474976710656) :
    Calls Tryd.prog 53 #[.pointer (some ⟨b, 0, none⟩), .int .i64 n] w fun e w' => e = .returned (.tuple #[]) ∧ (Lib.BuilderAt 80 5 B b (.pointer (some ⟨b, 0, none⟩)) [] w' ∧ Below B w w') := Any.Builder_grow_fresh Tryd.lays241 Tryd.Builder_Extra_241 B b n w hB hbk hBw hn
def Tryd.lays165_ren : Go.Shelf.Ren := ⟨fun | 165 => 42 | 240 => 52 | 241 => 53 | 276 => 58 | 277 => 59 | n => n, fun | 70 => 78 | 3 => 3 | 0 => 0 | 4 => 4 | 9 => 9 | 20 => 20 | 72 => 80 | 37 => 41 | 164 => 97 | 5 => 5 | n => n, fun | n => n⟩
theorem Tryd.lays165 : Go.Proofs.Lays.n165 Tryd.prog Tryd.lays165_ren := {
  mixed := by kernel_rfl
  f165 := Tryd.func42.trans (congrArg some (by kernel_rfl))
  f240 := Tryd.func52.trans (congrArg some (by kernel_rfl))
  f241 := Tryd.func53.trans (congrArg some (by kernel_rfl))
  f276 := Tryd.func58.trans (congrArg some (by kernel_rfl))
  f277 := Tryd.func59.trans (congrArg some (by kernel_rfl))
  t0 := Tryd.underlying0
  a0 := Tryd.isAgg0
  z0 := Tryd.sizeOf0
  v0 := Tryd.zeroValue0
  t3 := Tryd.underlying3
  a3 := Tryd.isAgg3
  z3 := Tryd.sizeOf3
  v3 := Tryd.zeroValue3
  t4 := Tryd.underlying4
  a4 := Tryd.isAgg4
  z4 := Tryd.sizeOf4
  v4 := Tryd.zeroValue4
  t9 := Tryd.underlying9
  a9 := Tryd.isAgg9
  z9 := Tryd.sizeOf9
  v9 := Tryd.zeroValue9
  t20 := Tryd.underlying20
  a20 := Tryd.isAgg20
  z20 := Tryd.sizeOf20
  v20 := Tryd.zeroValue20
  t37 := Tryd.underlying41
  a37 := Tryd.isAgg41
  z37 := Tryd.sizeOf41
  v37 := Tryd.zeroValue41
  t70 := Tryd.underlying78
  a70 := Tryd.isAgg78
  z70 := Tryd.sizeOf78
  v70 := Tryd.zeroValue78
  t72 := Tryd.underlying80
  a72 := Tryd.isAgg80
  z72 := Tryd.sizeOf80
  v72 := Tryd.zeroValue80
  t164 := Tryd.underlying97
  a164 := Tryd.isAgg97
  z164 := Tryd.sizeOf97
  v164 := Tryd.zeroValue97 }
theorem Tryd.Builder_Extra_165 : Builder.Extra Tryd.prog Tryd.lays165_ren := {
  sizeBuilder := by kernel_rfl
  liesBuilder := by kernel_rfl
  t5 := Tryd.underlying5
  a5 := Tryd.isAgg5
  z5 := Tryd.sizeOf5
  v5 := Tryd.zeroValue5
  infoByte := by kernel_rfl
  cellsByte := by kernel_rfl
  sizeByte := by kernel_rfl
  neB5 := by decide }
open Go.RowKit in
/-- (*strings.Builder).Grow AT A BUILDER THAT HAS NOT BEEN WRITTEN ('var b strings.Builder; b.Grow(n)'): "Grow grows b's capacity, if necessary, to guarantee space for another n bytes.": it holds no byte behind it as before it. (LAID: no walk: one application.) -/
theorem Tryd.Builder_Grow_fresh (B b n : Nat) (w : World) (hB : B ≤ b) (hbk : w.heap[b]? = some (.cells #[.pointer none, .slice none 0 0] 80 (0, 0))) (hBw : B ≤ w.heap.size) (hn : n ≤ 281474976710656) :
    Calls Tryd.prog 42 #[.pointer (some ⟨b, 0, none⟩), .int .i64 n] w fun e w' => e = .returned (.tuple #[]) ∧ (Lib.BuilderAt 80 5 B b (.pointer (some ⟨b, 0, none⟩)) [] w' ∧ Below B w w') := Any.Builder_Grow_fresh Tryd.lays165 Tryd.Builder_Extra_165 B b n w hB hbk hBw hn
def Tryd.lays156_ren : Go.Shelf.Ren := ⟨fun | 156 => 24 | 165 => 42 | 166 => 43 | 169 => 44 | 240 => 52 | 241 => 53 | 276 => 58 | 277 => 59 | n => n, fun | 31 => 38 | 9 => 9 | 3 => 3 | 4 => 4 | 0 => 0 | 20 => 20 | 72 => 80 | 76 => 84 | 70 => 78 | 37 => 41 | 75 => 83 | 127 => 90 | 164 => 97 | 5 => 5 | 80 => 86 | n => n, fun | n => n⟩
theorem Tryd.lays156 : Go.Proofs.Lays.n156 Tryd.prog Tryd.lays156_ren := {
  mixed := by kernel_rfl
  f156 := Tryd.func24.trans (congrArg some (by kernel_rfl))
  f165 := Tryd.func42.trans (congrArg some (by kernel_rfl))
  f166 := Tryd.func43.trans (congrArg some (by kernel_rfl))
  f169 := Tryd.func44.trans (congrArg some (by kernel_rfl))
  f240 := Tryd.func52.trans (congrArg some (by kernel_rfl))
  f241 := Tryd.func53.trans (congrArg some (by kernel_rfl))
  f276 := Tryd.func58.trans (congrArg some (by kernel_rfl))
  f277 := Tryd.func59.trans (congrArg some (by kernel_rfl))
  t0 := Tryd.underlying0
  a0 := Tryd.isAgg0
  z0 := Tryd.sizeOf0
  v0 := Tryd.zeroValue0
  t3 := Tryd.underlying3
  a3 := Tryd.isAgg3
  z3 := Tryd.sizeOf3
  v3 := Tryd.zeroValue3
  t4 := Tryd.underlying4
  a4 := Tryd.isAgg4
  z4 := Tryd.sizeOf4
  v4 := Tryd.zeroValue4
  t9 := Tryd.underlying9
  a9 := Tryd.isAgg9
  z9 := Tryd.sizeOf9
  v9 := Tryd.zeroValue9
  t20 := Tryd.underlying20
  a20 := Tryd.isAgg20
  z20 := Tryd.sizeOf20
  v20 := Tryd.zeroValue20
  t31 := Tryd.underlying38
  a31 := Tryd.isAgg38
  z31 := Tryd.sizeOf38
  v31 := Tryd.zeroValue38
  t37 := Tryd.underlying41
  a37 := Tryd.isAgg41
  z37 := Tryd.sizeOf41
  v37 := Tryd.zeroValue41
  t70 := Tryd.underlying78
  a70 := Tryd.isAgg78
  z70 := Tryd.sizeOf78
  v70 := Tryd.zeroValue78
  t72 := Tryd.underlying80
  a72 := Tryd.isAgg80
  z72 := Tryd.sizeOf80
  v72 := Tryd.zeroValue80
  t75 := Tryd.underlying83
  a75 := Tryd.isAgg83
  z75 := Tryd.sizeOf83
  v75 := Tryd.zeroValue83
  t76 := Tryd.underlying84
  a76 := Tryd.isAgg84
  z76 := Tryd.sizeOf84
  v76 := Tryd.zeroValue84
  t127 := Tryd.underlying90
  a127 := Tryd.isAgg90
  z127 := Tryd.sizeOf90
  v127 := Tryd.zeroValue90
  t164 := Tryd.underlying97
  a164 := Tryd.isAgg97
  z164 := Tryd.sizeOf97
  v164 := Tryd.zeroValue97 }
theorem Tryd.Builder_Extra_156 : Builder.Extra Tryd.prog Tryd.lays156_ren := {
  sizeBuilder := by kernel_rfl
  liesBuilder := by kernel_rfl
  t5 := Tryd.underlying5
  a5 := Tryd.isAgg5
  z5 := Tryd.sizeOf5
  v5 := Tryd.zeroValue5
  infoByte := by kernel_rfl
  cellsByte := by kernel_rfl
  sizeByte := by kernel_rfl
  neB5 := by decide }
open Go.RowKit in
/-- No element: the empty string; the world is as it was. (Whatever the slice's address and capacity: a nil slice too.) (LAID: no walk: one application.) -/
theorem Tryd.strings_Join_none (a : Option Addr) (c : Nat) (sep : ByteArray) (w : World) :
    Calls Tryd.prog 24 #[.slice a 0 c, .string sep] w fun e w' => e = .returned (.string ⟨#[]⟩) ∧ w' = w := Any.strings_Join_none Tryd.lays156 Tryd.Builder_Extra_156 a c sep w
open Go.RowKit in
/-- strings.Join: "Join concatenates the elements of its first argument to create a single string. The separator string sep is placed between elements in the resulting string.": HOWEVER MANY ELEMENTS. Below the heap's end the world is as it was. (LAID: no walk: one application.) -/
theorem Tryd.strings_Join (bk o c : Nat) (xs : List ByteArray) (sep : ByteArray) (w : World) (hcells : ∀ (j : Nat) x, xs[j]? = some x → w.cell? ⟨bk, o + j, none⟩ = some (.string x)) (hbk : bk < w.heap.size) (hN : xs.length ≤ 140737488355328) (hcap : xs.length ≤ c) (hlen : (Lib.join (xs.map (·.data.toList)) sep.data.toList).length ≤ 140737488355328) :
    Calls Tryd.prog 24 #[.slice (some ⟨bk, o, none⟩) xs.length c, .string sep] w fun e w' => e = .returned (.string ⟨(Lib.join (xs.map (·.data.toList)) sep.data.toList).toArray⟩) ∧ Below w.heap.size w w' := Any.strings_Join Tryd.lays156 Tryd.Builder_Extra_156 bk o c xs sep w hcells hbk hN hcap hlen
def Tryd.lays129_ren : Go.Shelf.Ren := ⟨fun | 129 => 61 | n => n, fun | 53 => 92 | 3 => 3 | 4 => 4 | 46 => 46 | 5 => 5 | 9 => 9 | n => n, fun | n => n⟩
theorem Tryd.lays129 : Go.Proofs.Lays.n129 Tryd.prog Tryd.lays129_ren := {
  mixed := by kernel_rfl
  f129 := Tryd.func61.trans (congrArg some (by kernel_rfl))
  t3 := Tryd.underlying3
  a3 := Tryd.isAgg3
  z3 := Tryd.sizeOf3
  v3 := Tryd.zeroValue3
  t4 := Tryd.underlying4
  a4 := Tryd.isAgg4
  z4 := Tryd.sizeOf4
  v4 := Tryd.zeroValue4
  t5 := Tryd.underlying5
  a5 := Tryd.isAgg5
  z5 := Tryd.sizeOf5
  v5 := Tryd.zeroValue5
  t9 := Tryd.underlying9
  a9 := Tryd.isAgg9
  z9 := Tryd.sizeOf9
  v9 := Tryd.zeroValue9
  t46 := Tryd.underlying46
  a46 := Tryd.isAgg46
  z46 := Tryd.sizeOf46
  v46 := Tryd.zeroValue46
  t53 := Tryd.underlying92
  a53 := Tryd.isAgg92
  z53 := Tryd.sizeOf92
  v53 := Tryd.zeroValue92 }
/-- bits.Len64: "Len64 returns the minimum number of bits required to represent x; the result is 0 for x == 0.": IT RETURNS 'Lib.bitLen x'; the world is as it was. ('h0', 'h1': x is a uint64.) (LAID: no walk: one application.) -/
theorem Tryd.bits_Len64 (x : Int) (w : World) (h0 : 0 ≤ x) (h1 : x ≤ 18446744073709551615) :
    Calls Tryd.prog 61 #[.int .u64 x] w fun e w' => e = .returned (.int .i64 (Lib.bitLen x.toNat)) ∧ w' = w := Any.bits_Len64 Tryd.lays129 x w h0 h1
def Tryd.lays317_ren : Go.Shelf.Ren := ⟨fun | 317 => 60 | n => n, fun | 3 => 3 | 46 => 46 | n => n, fun | n => n⟩
theorem Tryd.lays317 : Go.Proofs.Lays.n317 Tryd.prog Tryd.lays317_ren := {
  mixed := by kernel_rfl
  f317 := Tryd.func60.trans (congrArg some (by kernel_rfl))
  t3 := Tryd.underlying3
  a3 := Tryd.isAgg3
  z3 := Tryd.sizeOf3
  v3 := Tryd.zeroValue3
  t46 := Tryd.underlying46
  a46 := Tryd.isAgg46
  z46 := Tryd.sizeOf46
  v46 := Tryd.zeroValue46 }
open Go.Lib in
/-- internal/strconv.log10Pow2: "log10Pow2(x) returns ⌊log₁₀ 2**x⌋ = ⌊x * log₁₀ 2⌋.": '(x * 78913) >> 18', at an x up to 64 (a length in bits). The world is as it was. (LAID: no walk: one application.) -/
theorem Tryd.internal_strconv_log10Pow2 (x : Nat) (h : x ≤ 64) (w : World) :
    Calls Tryd.prog 60 #[.int .i64 x] w fun e w' => e = .returned (.int .i64 (Lib.l10 x)) ∧ w' = w := Any.internal_strconv_log10Pow2 Tryd.lays317 x h w
def Tryd.lays318_ren : Go.Shelf.Ren := ⟨fun | 318 => 62 | n => n, fun | 3 => 3 | 4 => 4 | n => n, fun | n => n⟩
theorem Tryd.lays318 : Go.Proofs.Lays.n318 Tryd.prog Tryd.lays318_ren := {
  mixed := by kernel_rfl
  f318 := Tryd.func62.trans (congrArg some (by kernel_rfl))
  t3 := Tryd.underlying3
  a3 := Tryd.isAgg3
  z3 := Tryd.sizeOf3
  v3 := Tryd.zeroValue3
  t4 := Tryd.underlying4
  a4 := Tryd.isAgg4
  z4 := Tryd.sizeOf4
  v4 := Tryd.zeroValue4 }
open Go.Lib in
/-- internal/strconv.bool2: "bool2 converts b to an integer: 1 for true, 0 for false." The world is as it was. (LAID: no walk: one application.) -/
theorem Tryd.internal_strconv_bool2_int (b : Bool) (w : World) :
    Calls Tryd.prog 62 #[.bool b] w fun e w' => e = .returned (.int .i64 (if b then 1 else 0)) ∧ w' = w := Any.internal_strconv_bool2_int Tryd.lays318 b w
def Tryd.lays283_ren : Go.Shelf.Ren := ⟨fun | 283 => 54 | n => n, fun | 3 => 3 | 9 => 9 | 4 => 4 | n => n, fun | n => n⟩
theorem Tryd.lays283 : Go.Proofs.Lays.n283 Tryd.prog Tryd.lays283_ren := {
  mixed := by kernel_rfl
  f283 := Tryd.func54.trans (congrArg some (by kernel_rfl))
  t3 := Tryd.underlying3
  a3 := Tryd.isAgg3
  z3 := Tryd.sizeOf3
  v3 := Tryd.zeroValue3
  t4 := Tryd.underlying4
  a4 := Tryd.isAgg4
  z4 := Tryd.sizeOf4
  v4 := Tryd.zeroValue4
  t9 := Tryd.underlying9
  a9 := Tryd.isAgg9
  z9 := Tryd.sizeOf9
  v9 := Tryd.zeroValue9 }
open Go.Lib in
/-- internal/strconv.small: "small returns the string for an i with 0 <= i < nSmalls.": i's decimal numeral. The world is as it was. (LAID: no walk: one application.) -/
theorem Tryd.internal_strconv_small (i : Nat) (h : i < 100) (w : World) :
    Calls Tryd.prog 54 #[.int .i64 i] w fun e w' => e = .returned (.string ⟨(Lib.decDigits i).toArray⟩) ∧ w' = w := Any.internal_strconv_small Tryd.lays283 i h w
def Tryd.laysM284_ren : Go.Shelf.Ren := ⟨fun | 284 => 55 | 129 => 61 | 317 => 60 | 318 => 62 | n => n, fun | 53 => 92 | 3 => 3 | 212 => 101 | 0 => 0 | 4 => 4 | 46 => 46 | 5 => 5 | 9 => 9 | n => n, fun | 17 => 0 | n => n⟩
theorem Tryd.laysM284 : Go.Proofs.LaysM.n284 Tryd.prog Tryd.laysM284_ren := {
  mixed := by kernel_rfl
  f129 := Tryd.func61.trans (congrArg some (by kernel_rfl))
  f284 := Tryd.func55.trans (congrArg some (by kernel_rfl))
  f317 := Tryd.func60.trans (congrArg some (by kernel_rfl))
  f318 := Tryd.func62.trans (congrArg some (by kernel_rfl))
  t0 := Tryd.underlying0
  a0 := Tryd.isAgg0
  z0 := Tryd.sizeOf0
  v0 := Tryd.zeroValue0
  t3 := Tryd.underlying3
  a3 := Tryd.isAgg3
  z3 := Tryd.sizeOf3
  v3 := Tryd.zeroValue3
  t4 := Tryd.underlying4
  a4 := Tryd.isAgg4
  z4 := Tryd.sizeOf4
  v4 := Tryd.zeroValue4
  t5 := Tryd.underlying5
  a5 := Tryd.isAgg5
  z5 := Tryd.sizeOf5
  v5 := Tryd.zeroValue5
  t9 := Tryd.underlying9
  a9 := Tryd.isAgg9
  z9 := Tryd.sizeOf9
  v9 := Tryd.zeroValue9
  t46 := Tryd.underlying46
  a46 := Tryd.isAgg46
  z46 := Tryd.sizeOf46
  v46 := Tryd.zeroValue46
  t53 := Tryd.underlying92
  a53 := Tryd.isAgg92
  z53 := Tryd.sizeOf92
  v53 := Tryd.zeroValue92
  t212 := Tryd.underlying101
  a212 := Tryd.isAgg101
  z212 := Tryd.sizeOf101
  v212 := Tryd.zeroValue101
  g17 := by kernel_rfl
  i0 := by kernel_rfl
  i3 := by kernel_rfl
  i4 := by kernel_rfl
  i5 := by kernel_rfl
  i9 := by kernel_rfl
  i46 := by kernel_rfl
  i53 := by kernel_rfl
  i212 := by kernel_rfl
  m17 := by kernel_rfl }
open Go.Lib in
/-- internal/strconv.numDigits, at a d that is not 0: THE NUMBER OF d's DECIMAL DIGITS. The world is as it was. (LAID: no walk: one application.) -/
theorem Tryd.internal_strconv_numDigits (u : Nat) (h1 : 1 ≤ u) (h2 : u < 18446744073709551616) (w : World) (htab : Lib.TabIs Tryd.prog w "internal/strconv.uint64pow10" .u64 Lib.pow10Tab) :
    Calls Tryd.prog 55 #[.int .u64 u] w fun e w' => e = .returned (.int .i64 (Lib.nDigits u)) ∧ w' = w := Any.internal_strconv_numDigits Tryd.laysM284 u h1 h2 w htab
def Tryd.lays285_ren : Go.Shelf.Ren := ⟨fun | 285 => 56 | n => n, fun | 37 => 41 | 53 => 92 | 3 => 3 | 4 => 4 | 51 => 102 | 9 => 9 | 5 => 5 | 0 => 0 | n => n, fun | n => n⟩
theorem Tryd.lays285 : Go.Proofs.Lays.n285 Tryd.prog Tryd.lays285_ren := {
  mixed := by kernel_rfl
  f285 := Tryd.func56.trans (congrArg some (by kernel_rfl))
  t0 := Tryd.underlying0
  a0 := Tryd.isAgg0
  z0 := Tryd.sizeOf0
  v0 := Tryd.zeroValue0
  t3 := Tryd.underlying3
  a3 := Tryd.isAgg3
  z3 := Tryd.sizeOf3
  v3 := Tryd.zeroValue3
  t4 := Tryd.underlying4
  a4 := Tryd.isAgg4
  z4 := Tryd.sizeOf4
  v4 := Tryd.zeroValue4
  t5 := Tryd.underlying5
  a5 := Tryd.isAgg5
  z5 := Tryd.sizeOf5
  v5 := Tryd.zeroValue5
  t9 := Tryd.underlying9
  a9 := Tryd.isAgg9
  z9 := Tryd.sizeOf9
  v9 := Tryd.zeroValue9
  t37 := Tryd.underlying41
  a37 := Tryd.isAgg41
  z37 := Tryd.sizeOf41
  v37 := Tryd.zeroValue41
  t51 := Tryd.underlying102
  a51 := Tryd.isAgg102
  z51 := Tryd.sizeOf102
  v51 := Tryd.zeroValue102
  t53 := Tryd.underlying92
  a53 := Tryd.isAgg92
  z53 := Tryd.sizeOf92
  v53 := Tryd.zeroValue92 }
open Go.RowKit Go.Sort Go.Lib in
/-- internal/strconv.formatBase10: "formatBase10 formats the decimal representation of u into a. The caller is responsible for ensuring that a is big enough to hold u. If a is too big, leading zeros will be filled in as needed.": THE ROW HOLDS u's DIGITS ('FmtInv .. 0 ..': every place t holds 'dg u (len - 1 - t)'); all else is as it was but for the count of draws. (LAID: no walk: one application.) -/
theorem Tryd.internal_strconv_formatBase10 (blk off cap : Nat) (u : Nat) (d : Array UInt8) (w : World) (hH : Holds (fun (b : UInt8) => Value.int .u8 (b.toNat : Int)) w blk off d) (hu : u < 10 ^ d.size) (hu64 : u < 18446744073709551616) (hsz : d.size < 4611686018427387904) :
    Calls Tryd.prog 56 #[.slice (some ⟨blk, off, none⟩) d.size cap, .int .u64 u] w fun e w' =>
      e = .returned (.tuple #[]) ∧ ∃ (n v' : Nat) (dk : Array UInt8), w' = (putRow (fun (b : UInt8) => Value.int .u8 (b.toNat : Int)) w blk off dk).drewN n ∧ FmtInv d.size u 0 v' dk := Any.internal_strconv_formatBase10 Tryd.lays285 blk off cap u d w hH hu hu64 hsz
def Tryd.laysM246_ren : Go.Shelf.Ren := ⟨fun | 246 => 51 | 283 => 54 | 284 => 55 | 285 => 56 | 286 => 57 | 129 => 61 | 317 => 60 | 318 => 62 | 319 => 63 | 320 => 64 | 337 => 65 | 338 => 66 | n => n, fun | 2 => 2 | 3 => 3 | 9 => 9 | 4 => 4 | 171 => 91 | 0 => 0 | 53 => 92 | 37 => 41 | 5 => 5 | 173 => 95 | 212 => 101 | 51 => 102 | 20 => 20 | 213 => 103 | 46 => 46 | 232 => 106 | 233 => 107 | n => n, fun | 17 => 0 | 18 => 2 | 19 => 3 | n => n⟩
theorem Tryd.laysM246 : Go.Proofs.LaysM.n246 Tryd.prog Tryd.laysM246_ren := {
  mixed := by kernel_rfl
  f129 := Tryd.func61.trans (congrArg some (by kernel_rfl))
  f246 := Tryd.func51.trans (congrArg some (by kernel_rfl))
  f283 := Tryd.func54.trans (congrArg some (by kernel_rfl))
  f284 := Tryd.func55.trans (congrArg some (by kernel_rfl))
  f285 := Tryd.func56.trans (congrArg some (by kernel_rfl))
  f286 := Tryd.func57.trans (congrArg some (by kernel_rfl))
  f317 := Tryd.func60.trans (congrArg some (by kernel_rfl))
  f318 := Tryd.func62.trans (congrArg some (by kernel_rfl))
  f319 := Tryd.func63.trans (congrArg some (by kernel_rfl))
  f320 := Tryd.func64.trans (congrArg some (by kernel_rfl))
  f337 := Tryd.func65.trans (congrArg some (by kernel_rfl))
  f338 := Tryd.func66.trans (congrArg some (by kernel_rfl))
  t0 := Tryd.underlying0
  a0 := Tryd.isAgg0
  z0 := Tryd.sizeOf0
  v0 := Tryd.zeroValue0
  t2 := Tryd.underlying2
  a2 := Tryd.isAgg2
  z2 := Tryd.sizeOf2
  v2 := Tryd.zeroValue2
  t3 := Tryd.underlying3
  a3 := Tryd.isAgg3
  z3 := Tryd.sizeOf3
  v3 := Tryd.zeroValue3
  t4 := Tryd.underlying4
  a4 := Tryd.isAgg4
  z4 := Tryd.sizeOf4
  v4 := Tryd.zeroValue4
  t5 := Tryd.underlying5
  a5 := Tryd.isAgg5
  z5 := Tryd.sizeOf5
  v5 := Tryd.zeroValue5
  t9 := Tryd.underlying9
  a9 := Tryd.isAgg9
  z9 := Tryd.sizeOf9
  v9 := Tryd.zeroValue9
  t20 := Tryd.underlying20
  a20 := Tryd.isAgg20
  z20 := Tryd.sizeOf20
  v20 := Tryd.zeroValue20
  t37 := Tryd.underlying41
  a37 := Tryd.isAgg41
  z37 := Tryd.sizeOf41
  v37 := Tryd.zeroValue41
  t46 := Tryd.underlying46
  a46 := Tryd.isAgg46
  z46 := Tryd.sizeOf46
  v46 := Tryd.zeroValue46
  t51 := Tryd.underlying102
  a51 := Tryd.isAgg102
  z51 := Tryd.sizeOf102
  v51 := Tryd.zeroValue102
  t53 := Tryd.underlying92
  a53 := Tryd.isAgg92
  z53 := Tryd.sizeOf92
  v53 := Tryd.zeroValue92
  t171 := Tryd.underlying91
  a171 := Tryd.isAgg91
  z171 := Tryd.sizeOf91
  v171 := Tryd.zeroValue91
  t173 := Tryd.underlying95
  a173 := Tryd.isAgg95
  z173 := Tryd.sizeOf95
  v173 := Tryd.zeroValue95
  t212 := Tryd.underlying101
  a212 := Tryd.isAgg101
  z212 := Tryd.sizeOf101
  v212 := Tryd.zeroValue101
  t213 := Tryd.underlying103
  a213 := Tryd.isAgg103
  z213 := Tryd.sizeOf103
  t232 := Tryd.underlying106
  a232 := Tryd.isAgg106
  z232 := Tryd.sizeOf106
  v232 := Tryd.zeroValue106
  t233 := Tryd.underlying107
  a233 := Tryd.isAgg107
  z233 := Tryd.sizeOf107
  v233 := Tryd.zeroValue107
  g17 := by kernel_rfl
  g18 := by kernel_rfl
  g19 := by kernel_rfl
  i0 := by kernel_rfl
  i2 := by kernel_rfl
  i3 := by kernel_rfl
  i4 := by kernel_rfl
  i5 := by kernel_rfl
  i9 := by kernel_rfl
  i20 := by kernel_rfl
  i37 := by kernel_rfl
  i46 := by kernel_rfl
  i51 := by kernel_rfl
  i53 := by kernel_rfl
  i171 := by kernel_rfl
  i173 := by kernel_rfl
  i212 := by kernel_rfl
  i232 := by kernel_rfl
  i233 := by kernel_rfl
  m17 := by kernel_rfl
  m18 := by kernel_rfl
  m19 := by kernel_rfl }
open Go.RowKit Go.Sort Go.Lib in
/-- internal/strconv.FormatInt: "FormatInt returns the string representation of i in the given base": AT BASE 10: i's decimal numeral, for every int64. The world behind the call: the world before it, new blocks behind the heap, draws. (LAID: no walk: one application.) -/
theorem Tryd.internal_strconv_FormatInt_10 (n : Int) (h0 : -9223372036854775808 ≤ n) (h1 : n ≤ 9223372036854775807) (w : World) (htab : Lib.TabIs Tryd.prog w "internal/strconv.uint64pow10" .u64 Lib.pow10Tab) :
    Calls Tryd.prog 51 #[.int .i64 n, .int .i64 10] w fun e w' => e = .returned (.string ⟨(Lib.itoa n).toArray⟩) ∧ ∃ k os, w' = grow (w.drewN k) os := Any.internal_strconv_FormatInt_10 Tryd.laysM246 n h0 h1 w htab
def Tryd.lays246_ren : Go.Shelf.Ren := ⟨fun | 246 => 51 | 283 => 54 | 284 => 55 | 285 => 56 | 286 => 57 | 129 => 61 | 317 => 60 | 318 => 62 | 319 => 63 | 320 => 64 | 337 => 65 | 338 => 66 | n => n, fun | 2 => 2 | 3 => 3 | 9 => 9 | 4 => 4 | 171 => 91 | 0 => 0 | 53 => 92 | 37 => 41 | 5 => 5 | 173 => 95 | 212 => 101 | 51 => 102 | 20 => 20 | 213 => 103 | 46 => 46 | 232 => 106 | 233 => 107 | n => n, fun | 17 => 0 | 18 => 2 | 19 => 3 | n => n⟩
theorem Tryd.lays246 : Go.Proofs.Lays.n246 Tryd.prog Tryd.lays246_ren := {
  mixed := by kernel_rfl
  f129 := Tryd.func61.trans (congrArg some (by kernel_rfl))
  f246 := Tryd.func51.trans (congrArg some (by kernel_rfl))
  f283 := Tryd.func54.trans (congrArg some (by kernel_rfl))
  f284 := Tryd.func55.trans (congrArg some (by kernel_rfl))
  f285 := Tryd.func56.trans (congrArg some (by kernel_rfl))
  f286 := Tryd.func57.trans (congrArg some (by kernel_rfl))
  f317 := Tryd.func60.trans (congrArg some (by kernel_rfl))
  f318 := Tryd.func62.trans (congrArg some (by kernel_rfl))
  f319 := Tryd.func63.trans (congrArg some (by kernel_rfl))
  f320 := Tryd.func64.trans (congrArg some (by kernel_rfl))
  f337 := Tryd.func65.trans (congrArg some (by kernel_rfl))
  f338 := Tryd.func66.trans (congrArg some (by kernel_rfl))
  t0 := Tryd.underlying0
  a0 := Tryd.isAgg0
  z0 := Tryd.sizeOf0
  v0 := Tryd.zeroValue0
  t2 := Tryd.underlying2
  a2 := Tryd.isAgg2
  z2 := Tryd.sizeOf2
  v2 := Tryd.zeroValue2
  t3 := Tryd.underlying3
  a3 := Tryd.isAgg3
  z3 := Tryd.sizeOf3
  v3 := Tryd.zeroValue3
  t4 := Tryd.underlying4
  a4 := Tryd.isAgg4
  z4 := Tryd.sizeOf4
  v4 := Tryd.zeroValue4
  t5 := Tryd.underlying5
  a5 := Tryd.isAgg5
  z5 := Tryd.sizeOf5
  v5 := Tryd.zeroValue5
  t9 := Tryd.underlying9
  a9 := Tryd.isAgg9
  z9 := Tryd.sizeOf9
  v9 := Tryd.zeroValue9
  t20 := Tryd.underlying20
  a20 := Tryd.isAgg20
  z20 := Tryd.sizeOf20
  v20 := Tryd.zeroValue20
  t37 := Tryd.underlying41
  a37 := Tryd.isAgg41
  z37 := Tryd.sizeOf41
  v37 := Tryd.zeroValue41
  t46 := Tryd.underlying46
  a46 := Tryd.isAgg46
  z46 := Tryd.sizeOf46
  v46 := Tryd.zeroValue46
  t51 := Tryd.underlying102
  a51 := Tryd.isAgg102
  z51 := Tryd.sizeOf102
  v51 := Tryd.zeroValue102
  t53 := Tryd.underlying92
  a53 := Tryd.isAgg92
  z53 := Tryd.sizeOf92
  v53 := Tryd.zeroValue92
  t171 := Tryd.underlying91
  a171 := Tryd.isAgg91
  z171 := Tryd.sizeOf91
  v171 := Tryd.zeroValue91
  t173 := Tryd.underlying95
  a173 := Tryd.isAgg95
  z173 := Tryd.sizeOf95
  v173 := Tryd.zeroValue95
  t212 := Tryd.underlying101
  a212 := Tryd.isAgg101
  z212 := Tryd.sizeOf101
  v212 := Tryd.zeroValue101
  t213 := Tryd.underlying103
  a213 := Tryd.isAgg103
  z213 := Tryd.sizeOf103
  t232 := Tryd.underlying106
  a232 := Tryd.isAgg106
  z232 := Tryd.sizeOf106
  v232 := Tryd.zeroValue106
  t233 := Tryd.underlying107
  a233 := Tryd.isAgg107
  z233 := Tryd.sizeOf107
  v233 := Tryd.zeroValue107
  g17 := by kernel_rfl
  g18 := by kernel_rfl
  g19 := by kernel_rfl }
open Go.RowKit Go.Sort Go.Lib in
/-- THE ROAD WITHOUT THE TABLE: 0 <= i < 100: two constants are read, nothing is laid: no premise on the world, and the world is as it was. (LAID: no walk: one application.) -/
theorem Tryd.internal_strconv_FormatInt_10_small (i : Nat) (hi : i < 100) (w : World) :
    Calls Tryd.prog 51 #[.int .i64 i, .int .i64 10] w fun e w' => e = .returned (.string ⟨(Lib.decDigits i).toArray⟩) ∧ w' = w := Any.internal_strconv_FormatInt_10_small Tryd.lays246 i hi w
def Tryd.laysM243_ren : Go.Shelf.Ren := ⟨fun | 243 => 41 | 246 => 51 | 283 => 54 | 284 => 55 | 285 => 56 | 286 => 57 | 129 => 61 | 317 => 60 | 318 => 62 | 319 => 63 | 320 => 64 | 337 => 65 | 338 => 66 | n => n, fun | 3 => 3 | 9 => 9 | 2 => 2 | 4 => 4 | 171 => 91 | 0 => 0 | 53 => 92 | 37 => 41 | 5 => 5 | 173 => 95 | 212 => 101 | 51 => 102 | 20 => 20 | 213 => 103 | 46 => 46 | 232 => 106 | 233 => 107 | n => n, fun | 17 => 0 | 18 => 2 | 19 => 3 | n => n⟩
theorem Tryd.laysM243 : Go.Proofs.LaysM.n243 Tryd.prog Tryd.laysM243_ren := {
  mixed := by kernel_rfl
  f129 := Tryd.func61.trans (congrArg some (by kernel_rfl))
  f243 := Tryd.func41.trans (congrArg some (by kernel_rfl))
  f246 := Tryd.func51.trans (congrArg some (by kernel_rfl))
  f283 := Tryd.func54.trans (congrArg some (by kernel_rfl))
  f284 := Tryd.func55.trans (congrArg some (by kernel_rfl))
  f285 := Tryd.func56.trans (congrArg some (by kernel_rfl))
  f286 := Tryd.func57.trans (congrArg some (by kernel_rfl))
  f317 := Tryd.func60.trans (congrArg some (by kernel_rfl))
  f318 := Tryd.func62.trans (congrArg some (by kernel_rfl))
  f319 := Tryd.func63.trans (congrArg some (by kernel_rfl))
  f320 := Tryd.func64.trans (congrArg some (by kernel_rfl))
  f337 := Tryd.func65.trans (congrArg some (by kernel_rfl))
  f338 := Tryd.func66.trans (congrArg some (by kernel_rfl))
  t0 := Tryd.underlying0
  a0 := Tryd.isAgg0
  z0 := Tryd.sizeOf0
  v0 := Tryd.zeroValue0
  t2 := Tryd.underlying2
  a2 := Tryd.isAgg2
  z2 := Tryd.sizeOf2
  v2 := Tryd.zeroValue2
  t3 := Tryd.underlying3
  a3 := Tryd.isAgg3
  z3 := Tryd.sizeOf3
  v3 := Tryd.zeroValue3
  t4 := Tryd.underlying4
  a4 := Tryd.isAgg4
  z4 := Tryd.sizeOf4
  v4 := Tryd.zeroValue4
  t5 := Tryd.underlying5
  a5 := Tryd.isAgg5
  z5 := Tryd.sizeOf5
  v5 := Tryd.zeroValue5
  t9 := Tryd.underlying9
  a9 := Tryd.isAgg9
  z9 := Tryd.sizeOf9
  v9 := Tryd.zeroValue9
  t20 := Tryd.underlying20
  a20 := Tryd.isAgg20
  z20 := Tryd.sizeOf20
  v20 := Tryd.zeroValue20
  t37 := Tryd.underlying41
  a37 := Tryd.isAgg41
  z37 := Tryd.sizeOf41
  v37 := Tryd.zeroValue41
  t46 := Tryd.underlying46
  a46 := Tryd.isAgg46
  z46 := Tryd.sizeOf46
  v46 := Tryd.zeroValue46
  t51 := Tryd.underlying102
  a51 := Tryd.isAgg102
  z51 := Tryd.sizeOf102
  v51 := Tryd.zeroValue102
  t53 := Tryd.underlying92
  a53 := Tryd.isAgg92
  z53 := Tryd.sizeOf92
  v53 := Tryd.zeroValue92
  t171 := Tryd.underlying91
  a171 := Tryd.isAgg91
  z171 := Tryd.sizeOf91
  v171 := Tryd.zeroValue91
  t173 := Tryd.underlying95
  a173 := Tryd.isAgg95
  z173 := Tryd.sizeOf95
  v173 := Tryd.zeroValue95
  t212 := Tryd.underlying101
  a212 := Tryd.isAgg101
  z212 := Tryd.sizeOf101
  v212 := Tryd.zeroValue101
  t213 := Tryd.underlying103
  a213 := Tryd.isAgg103
  z213 := Tryd.sizeOf103
  t232 := Tryd.underlying106
  a232 := Tryd.isAgg106
  z232 := Tryd.sizeOf106
  v232 := Tryd.zeroValue106
  t233 := Tryd.underlying107
  a233 := Tryd.isAgg107
  z233 := Tryd.sizeOf107
  v233 := Tryd.zeroValue107
  g17 := by kernel_rfl
  g18 := by kernel_rfl
  g19 := by kernel_rfl
  i0 := by kernel_rfl
  i2 := by kernel_rfl
  i3 := by kernel_rfl
  i4 := by kernel_rfl
  i5 := by kernel_rfl
  i9 := by kernel_rfl
  i20 := by kernel_rfl
  i37 := by kernel_rfl
  i46 := by kernel_rfl
  i51 := by kernel_rfl
  i53 := by kernel_rfl
  i171 := by kernel_rfl
  i173 := by kernel_rfl
  i212 := by kernel_rfl
  i232 := by kernel_rfl
  i233 := by kernel_rfl
  m17 := by kernel_rfl
  m18 := by kernel_rfl
  m19 := by kernel_rfl }
open Go.RowKit Go.Sort Go.Lib in
/-- internal/strconv.Itoa: "Itoa is equivalent to FormatInt(int64(i), 10).": i's decimal numeral, for every int. (LAID: no walk: one application.) -/
theorem Tryd.internal_strconv_Itoa (n : Int) (h0 : -9223372036854775808 ≤ n) (h1 : n ≤ 9223372036854775807) (w : World) (htab : Lib.TabIs Tryd.prog w "internal/strconv.uint64pow10" .u64 Lib.pow10Tab) :
    Calls Tryd.prog 41 #[.int .i64 n] w fun e w' => e = .returned (.string ⟨(Lib.itoa n).toArray⟩) ∧ ∃ k os, w' = grow (w.drewN k) os := Any.internal_strconv_Itoa Tryd.laysM243 n h0 h1 w htab
def Tryd.lays243_ren : Go.Shelf.Ren := ⟨fun | 243 => 41 | 246 => 51 | 283 => 54 | 284 => 55 | 285 => 56 | 286 => 57 | 129 => 61 | 317 => 60 | 318 => 62 | 319 => 63 | 320 => 64 | 337 => 65 | 338 => 66 | n => n, fun | 3 => 3 | 9 => 9 | 2 => 2 | 4 => 4 | 171 => 91 | 0 => 0 | 53 => 92 | 37 => 41 | 5 => 5 | 173 => 95 | 212 => 101 | 51 => 102 | 20 => 20 | 213 => 103 | 46 => 46 | 232 => 106 | 233 => 107 | n => n, fun | 17 => 0 | 18 => 2 | 19 => 3 | n => n⟩
theorem Tryd.lays243 : Go.Proofs.Lays.n243 Tryd.prog Tryd.lays243_ren := {
  mixed := by kernel_rfl
  f129 := Tryd.func61.trans (congrArg some (by kernel_rfl))
  f243 := Tryd.func41.trans (congrArg some (by kernel_rfl))
  f246 := Tryd.func51.trans (congrArg some (by kernel_rfl))
  f283 := Tryd.func54.trans (congrArg some (by kernel_rfl))
  f284 := Tryd.func55.trans (congrArg some (by kernel_rfl))
  f285 := Tryd.func56.trans (congrArg some (by kernel_rfl))
  f286 := Tryd.func57.trans (congrArg some (by kernel_rfl))
  f317 := Tryd.func60.trans (congrArg some (by kernel_rfl))
  f318 := Tryd.func62.trans (congrArg some (by kernel_rfl))
  f319 := Tryd.func63.trans (congrArg some (by kernel_rfl))
  f320 := Tryd.func64.trans (congrArg some (by kernel_rfl))
  f337 := Tryd.func65.trans (congrArg some (by kernel_rfl))
  f338 := Tryd.func66.trans (congrArg some (by kernel_rfl))
  t0 := Tryd.underlying0
  a0 := Tryd.isAgg0
  z0 := Tryd.sizeOf0
  v0 := Tryd.zeroValue0
  t2 := Tryd.underlying2
  a2 := Tryd.isAgg2
  z2 := Tryd.sizeOf2
  v2 := Tryd.zeroValue2
  t3 := Tryd.underlying3
  a3 := Tryd.isAgg3
  z3 := Tryd.sizeOf3
  v3 := Tryd.zeroValue3
  t4 := Tryd.underlying4
  a4 := Tryd.isAgg4
  z4 := Tryd.sizeOf4
  v4 := Tryd.zeroValue4
  t5 := Tryd.underlying5
  a5 := Tryd.isAgg5
  z5 := Tryd.sizeOf5
  v5 := Tryd.zeroValue5
  t9 := Tryd.underlying9
  a9 := Tryd.isAgg9
  z9 := Tryd.sizeOf9
  v9 := Tryd.zeroValue9
  t20 := Tryd.underlying20
  a20 := Tryd.isAgg20
  z20 := Tryd.sizeOf20
  v20 := Tryd.zeroValue20
  t37 := Tryd.underlying41
  a37 := Tryd.isAgg41
  z37 := Tryd.sizeOf41
  v37 := Tryd.zeroValue41
  t46 := Tryd.underlying46
  a46 := Tryd.isAgg46
  z46 := Tryd.sizeOf46
  v46 := Tryd.zeroValue46
  t51 := Tryd.underlying102
  a51 := Tryd.isAgg102
  z51 := Tryd.sizeOf102
  v51 := Tryd.zeroValue102
  t53 := Tryd.underlying92
  a53 := Tryd.isAgg92
  z53 := Tryd.sizeOf92
  v53 := Tryd.zeroValue92
  t171 := Tryd.underlying91
  a171 := Tryd.isAgg91
  z171 := Tryd.sizeOf91
  v171 := Tryd.zeroValue91
  t173 := Tryd.underlying95
  a173 := Tryd.isAgg95
  z173 := Tryd.sizeOf95
  v173 := Tryd.zeroValue95
  t212 := Tryd.underlying101
  a212 := Tryd.isAgg101
  z212 := Tryd.sizeOf101
  v212 := Tryd.zeroValue101
  t213 := Tryd.underlying103
  a213 := Tryd.isAgg103
  z213 := Tryd.sizeOf103
  t232 := Tryd.underlying106
  a232 := Tryd.isAgg106
  z232 := Tryd.sizeOf106
  v232 := Tryd.zeroValue106
  t233 := Tryd.underlying107
  a233 := Tryd.isAgg107
  z233 := Tryd.sizeOf107
  v233 := Tryd.zeroValue107
  g17 := by kernel_rfl
  g18 := by kernel_rfl
  g19 := by kernel_rfl }
open Go.RowKit Go.Sort Go.Lib in
/-- THE ROAD WITHOUT THE TABLE: 0 <= i < 100. (LAID: no walk: one application.) -/
theorem Tryd.internal_strconv_Itoa_small (i : Nat) (hi : i < 100) (w : World) :
    Calls Tryd.prog 41 #[.int .i64 i] w fun e w' => e = .returned (.string ⟨(Lib.decDigits i).toArray⟩) ∧ w' = w := Any.internal_strconv_Itoa_small Tryd.lays243 i hi w
def Tryd.laysM171_ren : Go.Shelf.Ren := ⟨fun | 171 => 22 | 243 => 41 | 246 => 51 | 283 => 54 | 284 => 55 | 285 => 56 | 286 => 57 | 129 => 61 | 317 => 60 | 318 => 62 | 319 => 63 | 320 => 64 | 337 => 65 | 338 => 66 | n => n, fun | 3 => 3 | 9 => 9 | 2 => 2 | 4 => 4 | 171 => 91 | 0 => 0 | 53 => 92 | 37 => 41 | 5 => 5 | 173 => 95 | 212 => 101 | 51 => 102 | 20 => 20 | 213 => 103 | 46 => 46 | 232 => 106 | 233 => 107 | n => n, fun | 17 => 0 | 18 => 2 | 19 => 3 | n => n⟩
theorem Tryd.laysM171 : Go.Proofs.LaysM.n171 Tryd.prog Tryd.laysM171_ren := {
  mixed := by kernel_rfl
  f129 := Tryd.func61.trans (congrArg some (by kernel_rfl))
  f171 := Tryd.func22.trans (congrArg some (by kernel_rfl))
  f243 := Tryd.func41.trans (congrArg some (by kernel_rfl))
  f246 := Tryd.func51.trans (congrArg some (by kernel_rfl))
  f283 := Tryd.func54.trans (congrArg some (by kernel_rfl))
  f284 := Tryd.func55.trans (congrArg some (by kernel_rfl))
  f285 := Tryd.func56.trans (congrArg some (by kernel_rfl))
  f286 := Tryd.func57.trans (congrArg some (by kernel_rfl))
  f317 := Tryd.func60.trans (congrArg some (by kernel_rfl))
  f318 := Tryd.func62.trans (congrArg some (by kernel_rfl))
  f319 := Tryd.func63.trans (congrArg some (by kernel_rfl))
  f320 := Tryd.func64.trans (congrArg some (by kernel_rfl))
  f337 := Tryd.func65.trans (congrArg some (by kernel_rfl))
  f338 := Tryd.func66.trans (congrArg some (by kernel_rfl))
  t0 := Tryd.underlying0
  a0 := Tryd.isAgg0
  z0 := Tryd.sizeOf0
  v0 := Tryd.zeroValue0
  t2 := Tryd.underlying2
  a2 := Tryd.isAgg2
  z2 := Tryd.sizeOf2
  v2 := Tryd.zeroValue2
  t3 := Tryd.underlying3
  a3 := Tryd.isAgg3
  z3 := Tryd.sizeOf3
  v3 := Tryd.zeroValue3
  t4 := Tryd.underlying4
  a4 := Tryd.isAgg4
  z4 := Tryd.sizeOf4
  v4 := Tryd.zeroValue4
  t5 := Tryd.underlying5
  a5 := Tryd.isAgg5
  z5 := Tryd.sizeOf5
  v5 := Tryd.zeroValue5
  t9 := Tryd.underlying9
  a9 := Tryd.isAgg9
  z9 := Tryd.sizeOf9
  v9 := Tryd.zeroValue9
  t20 := Tryd.underlying20
  a20 := Tryd.isAgg20
  z20 := Tryd.sizeOf20
  v20 := Tryd.zeroValue20
  t37 := Tryd.underlying41
  a37 := Tryd.isAgg41
  z37 := Tryd.sizeOf41
  v37 := Tryd.zeroValue41
  t46 := Tryd.underlying46
  a46 := Tryd.isAgg46
  z46 := Tryd.sizeOf46
  v46 := Tryd.zeroValue46
  t51 := Tryd.underlying102
  a51 := Tryd.isAgg102
  z51 := Tryd.sizeOf102
  v51 := Tryd.zeroValue102
  t53 := Tryd.underlying92
  a53 := Tryd.isAgg92
  z53 := Tryd.sizeOf92
  v53 := Tryd.zeroValue92
  t171 := Tryd.underlying91
  a171 := Tryd.isAgg91
  z171 := Tryd.sizeOf91
  v171 := Tryd.zeroValue91
  t173 := Tryd.underlying95
  a173 := Tryd.isAgg95
  z173 := Tryd.sizeOf95
  v173 := Tryd.zeroValue95
  t212 := Tryd.underlying101
  a212 := Tryd.isAgg101
  z212 := Tryd.sizeOf101
  v212 := Tryd.zeroValue101
  t213 := Tryd.underlying103
  a213 := Tryd.isAgg103
  z213 := Tryd.sizeOf103
  t232 := Tryd.underlying106
  a232 := Tryd.isAgg106
  z232 := Tryd.sizeOf106
  v232 := Tryd.zeroValue106
  t233 := Tryd.underlying107
  a233 := Tryd.isAgg107
  z233 := Tryd.sizeOf107
  v233 := Tryd.zeroValue107
  g17 := by kernel_rfl
  g18 := by kernel_rfl
  g19 := by kernel_rfl
  i0 := by kernel_rfl
  i2 := by kernel_rfl
  i3 := by kernel_rfl
  i4 := by kernel_rfl
  i5 := by kernel_rfl
  i9 := by kernel_rfl
  i20 := by kernel_rfl
  i37 := by kernel_rfl
  i46 := by kernel_rfl
  i51 := by kernel_rfl
  i53 := by kernel_rfl
  i171 := by kernel_rfl
  i173 := by kernel_rfl
  i212 := by kernel_rfl
  i232 := by kernel_rfl
  i233 := by kernel_rfl
  m17 := by kernel_rfl
  m18 := by kernel_rfl
  m19 := by kernel_rfl }
open Go.RowKit Go.Sort Go.Lib in
/-- strconv.Itoa: "Itoa is equivalent to FormatInt(int64(i), 10).": i's DECIMAL NUMERAL ('Lib.itoa': a '-' where i is negative, then the digits), FOR EVERY int. The world behind the call: the world before it, new blocks behind the heap (the library's 'var a [24]byte'), draws. (LAID: no walk: one application.) -/
theorem Tryd.strconv_Itoa (n : Int) (h0 : -9223372036854775808 ≤ n) (h1 : n ≤ 9223372036854775807) (w : World) (htab : Lib.TabIs Tryd.prog w "internal/strconv.uint64pow10" .u64 Lib.pow10Tab) :
    Calls Tryd.prog 22 #[.int .i64 n] w fun e w' => e = .returned (.string ⟨(Lib.itoa n).toArray⟩) ∧ ∃ k os, w' = grow (w.drewN k) os := Any.strconv_Itoa Tryd.laysM171 n h0 h1 w htab
def Tryd.lays171_ren : Go.Shelf.Ren := ⟨fun | 171 => 22 | 243 => 41 | 246 => 51 | 283 => 54 | 284 => 55 | 285 => 56 | 286 => 57 | 129 => 61 | 317 => 60 | 318 => 62 | 319 => 63 | 320 => 64 | 337 => 65 | 338 => 66 | n => n, fun | 3 => 3 | 9 => 9 | 2 => 2 | 4 => 4 | 171 => 91 | 0 => 0 | 53 => 92 | 37 => 41 | 5 => 5 | 173 => 95 | 212 => 101 | 51 => 102 | 20 => 20 | 213 => 103 | 46 => 46 | 232 => 106 | 233 => 107 | n => n, fun | 17 => 0 | 18 => 2 | 19 => 3 | n => n⟩
theorem Tryd.lays171 : Go.Proofs.Lays.n171 Tryd.prog Tryd.lays171_ren := {
  mixed := by kernel_rfl
  f129 := Tryd.func61.trans (congrArg some (by kernel_rfl))
  f171 := Tryd.func22.trans (congrArg some (by kernel_rfl))
  f243 := Tryd.func41.trans (congrArg some (by kernel_rfl))
  f246 := Tryd.func51.trans (congrArg some (by kernel_rfl))
  f283 := Tryd.func54.trans (congrArg some (by kernel_rfl))
  f284 := Tryd.func55.trans (congrArg some (by kernel_rfl))
  f285 := Tryd.func56.trans (congrArg some (by kernel_rfl))
  f286 := Tryd.func57.trans (congrArg some (by kernel_rfl))
  f317 := Tryd.func60.trans (congrArg some (by kernel_rfl))
  f318 := Tryd.func62.trans (congrArg some (by kernel_rfl))
  f319 := Tryd.func63.trans (congrArg some (by kernel_rfl))
  f320 := Tryd.func64.trans (congrArg some (by kernel_rfl))
  f337 := Tryd.func65.trans (congrArg some (by kernel_rfl))
  f338 := Tryd.func66.trans (congrArg some (by kernel_rfl))
  t0 := Tryd.underlying0
  a0 := Tryd.isAgg0
  z0 := Tryd.sizeOf0
  v0 := Tryd.zeroValue0
  t2 := Tryd.underlying2
  a2 := Tryd.isAgg2
  z2 := Tryd.sizeOf2
  v2 := Tryd.zeroValue2
  t3 := Tryd.underlying3
  a3 := Tryd.isAgg3
  z3 := Tryd.sizeOf3
  v3 := Tryd.zeroValue3
  t4 := Tryd.underlying4
  a4 := Tryd.isAgg4
  z4 := Tryd.sizeOf4
  v4 := Tryd.zeroValue4
  t5 := Tryd.underlying5
  a5 := Tryd.isAgg5
  z5 := Tryd.sizeOf5
  v5 := Tryd.zeroValue5
  t9 := Tryd.underlying9
  a9 := Tryd.isAgg9
  z9 := Tryd.sizeOf9
  v9 := Tryd.zeroValue9
  t20 := Tryd.underlying20
  a20 := Tryd.isAgg20
  z20 := Tryd.sizeOf20
  v20 := Tryd.zeroValue20
  t37 := Tryd.underlying41
  a37 := Tryd.isAgg41
  z37 := Tryd.sizeOf41
  v37 := Tryd.zeroValue41
  t46 := Tryd.underlying46
  a46 := Tryd.isAgg46
  z46 := Tryd.sizeOf46
  v46 := Tryd.zeroValue46
  t51 := Tryd.underlying102
  a51 := Tryd.isAgg102
  z51 := Tryd.sizeOf102
  v51 := Tryd.zeroValue102
  t53 := Tryd.underlying92
  a53 := Tryd.isAgg92
  z53 := Tryd.sizeOf92
  v53 := Tryd.zeroValue92
  t171 := Tryd.underlying91
  a171 := Tryd.isAgg91
  z171 := Tryd.sizeOf91
  v171 := Tryd.zeroValue91
  t173 := Tryd.underlying95
  a173 := Tryd.isAgg95
  z173 := Tryd.sizeOf95
  v173 := Tryd.zeroValue95
  t212 := Tryd.underlying101
  a212 := Tryd.isAgg101
  z212 := Tryd.sizeOf101
  v212 := Tryd.zeroValue101
  t213 := Tryd.underlying103
  a213 := Tryd.isAgg103
  z213 := Tryd.sizeOf103
  t232 := Tryd.underlying106
  a232 := Tryd.isAgg106
  z232 := Tryd.sizeOf106
  v232 := Tryd.zeroValue106
  t233 := Tryd.underlying107
  a233 := Tryd.isAgg107
  z233 := Tryd.sizeOf107
  v233 := Tryd.zeroValue107
  g17 := by kernel_rfl
  g18 := by kernel_rfl
  g19 := by kernel_rfl }
open Go.RowKit Go.Sort Go.Lib in
/-- THE ROAD WITHOUT THE TABLE: 0 <= i < 100: NO PREMISE ON THE WORLD, AND THE WORLD IS AS IT WAS: a row that keeps its argument in that range need list no table ('laid = []'). (LAID: no walk: one application.) -/
theorem Tryd.strconv_Itoa_small (i : Nat) (hi : i < 100) (w : World) :
    Calls Tryd.prog 22 #[.int .i64 i] w fun e w' => e = .returned (.string ⟨(Lib.decDigits i).toArray⟩) ∧ w' = w := Any.strconv_Itoa_small Tryd.lays171 i hi w
end Go.Proofs
end

section
/- What a state is told as: the library's Itoa, Join, Clip; show's names, held. -/
namespace Go.Proofs.YtmmlolampgnamaaDoor.Ax
open Go.RowKit
set_option linter.unusedVariables false
set_option linter.unusedSimpArgs false
theorem clip_walk (A : Option Addr) (n c : Nat) (hc : n ≤ c) (hn : (n : Int) ≤ 9223372036854775807) (w : World) : Calls Tryd.prog 30 #[.slice A n c] w fun e w' => e = .returned (.slice A n n) ∧ w' = w := by
  go_enter Tryd.func30, Tryd.ntmps30
  go_wp2
  go_ret
  exact ⟨rfl, rfl⟩
theorem one_arg {ok : Nat → Prop} {w : World} {x : A} {vals : List Value} (h : RAs ok w [x] vals) : ∃ v, vals = [v] ∧ RA ok w x v := by
  cases vals with
  | nil => exact h.elim
  | cons v vs => cases vs with
    | nil => exact ⟨v, rfl, h.1⟩
    | cons _ _ => exact h.2.elim
theorem two_args {ok : Nat → Prop} {w : World} {x y : A} {vals : List Value} (h : RAs ok w [x, y] vals) : ∃ v u, vals = [v, u] ∧ RA ok w x v ∧ RA ok w y u := by
  cases vals with
  | nil => exact h.elim
  | cons v vs =>
    obtain ⟨u, rfl, hu⟩ := one_arg h.2
    exact ⟨v, u, rfl, h.1, hu⟩
theorem digS_dec (n : Nat) (h : n ≤ 9) : (⟨(Lib.decDigits n).toArray⟩ : ByteArray) = digS n := by
  have : n = 0 ∨ n = 1 ∨ n = 2 ∨ n = 3 ∨ n = 4 ∨ n = 5 ∨ n = 6 ∨ n = 7 ∨ n = 8 ∨ n = 9 := by omega
  rcases this with h | h | h | h | h | h | h | h | h | h <;> (subst h; unfold Lib.decDigits; rfl)
theorem itoa_calls {n : Int} (h : 0 ≤ n ∧ n ≤ 9) : ACalls Tryd.prog 22 [.c (.int .i64 n)] (.c (.d (.str (digS n)))) := by
  intro w vals ok hok hgl hargs
  obtain ⟨v, rfl, hv⟩ := one_arg hargs
  simp only [RA, RD] at hv
  subst hv
  have := Tryd.strconv_Itoa_small n.toNat (by omega) w
  rw [show ((n.toNat : Nat) : Int) = n by omega, digS_dec n.toNat (by omega), show ((n.toNat : Nat) : Int) = n by omega] at this
  refine this.mono fun e w' h => ?_
  obtain ⟨rfl, rfl⟩ := h
  exact ⟨_, ok, [], rfl, Below.refl _ _, hok, fun b h => .inl h, ⟨rfl, by simp only [RD]⟩, List.nodup_nil, fun b h => by cases h⟩
def c_itoa : FT Int := ⟨22, fun n => [ai n], rdI1, fun n => 0 ≤ n ∧ n ≤ 9, fun n => .c (.d (.str (digS n))), false, fun _ => rfl⟩
theorem c_itoa_good : c_itoa.fe.Good Tryd.prog := FT.good c_itoa ⟨Tryd.f22, by kernel_rfl, by decide +kernel, by kernel_rfl⟩ (fun _ => rfl) fun n hn => itoa_calls hn
noncomputable def v_itoa : Int → ByteArray := fun n => digS n
noncomputable def sh_itoa : ByteArray → RR := fun s => .c (.d (.str s))
theorem e_itoa (x : Int) : sh_itoa (v_itoa x) = c_itoa.ans x := rfl
theorem clip_calls {rows : List (List D)} (h : rows.length ≤ 1000000000) : ACalls Tryd.prog 30 [.c (.sl rows)] (.c (.d (.sl rows))) := by
  intro w vals ok hok hgl hargs
  obtain ⟨v, rfl, hv⟩ := one_arg hargs
  simp only [RA, RD] at hv
  obtain ⟨A, c, rfl, hc, hr⟩ := hv
  refine (clip_walk A rows.length c hc (by omega) w).mono fun e w' h => ?_
  obtain ⟨rfl, rfl⟩ := h
  refine ⟨_, ok, [], rfl, Below.refl _ _, hok, fun b h => .inl h, ⟨rfl, ?_⟩, List.nodup_nil, fun b h => by cases h⟩
  simp only [RD]
  exact ⟨A, rows.length, rfl, Nat.le_refl _, hr⟩
def rsl (l : List Int) : RR := .c (.d (.sl (rowsOn l)))
def c_clip : FT (List Int × Unit) := ⟨30, fun l => [al l.1], rdL, fun l => l.1.length ≤ 1000000000, fun l => rsl l.1, true, fun l => by simp [al, rdL]⟩
theorem c_clip_good : c_clip.fe.Good Tryd.prog := by
  refine FT.good c_clip ⟨Tryd.f30, by kernel_rfl, by decide +kernel, by kernel_rfl⟩ (fun l => rfl) fun l hl => clip_calls (by rw [rowsOn_length]; exact hl)
noncomputable def v_clip : List Int × Unit → List Int := fun l => l.1
noncomputable def sh_clip : List Int → RR := fun l => rsl l
theorem e_clip (x : List Int × Unit) : sh_clip (v_clip x) = c_clip.ans x := rfl
def aTx (l : List Tx) : A := .c (.sl (rowsOn l))
def joinL (l : List Tx) : List UInt8 := ([32] : List UInt8).intercalate (l.map fun t => t.v.data.toList)
theorem inter_len (sep : List UInt8) (b : Nat) (hs : sep.length ≤ b) : ∀ l : List (List UInt8), (∀ x ∈ l, x.length ≤ b) → (sep.intercalate l).length ≤ 2 * b * l.length
  | [], _ => by simp
  | [x], h => by
    have := h x (by simp)
    simp [List.intercalate]; omega
  | x :: y :: l, h => by
    have h1 := h x (by simp)
    have ih := inter_len sep b hs (y :: l) fun z hz => h z (List.mem_cons_of_mem _ hz)
    have e : sep.intercalate (x :: y :: l) = x ++ sep ++ sep.intercalate (y :: l) := by simp [List.intercalate, List.intersperse]
    rw [e]
    simp only [List.length_append, List.length_cons, Nat.mul_add, Nat.mul_one] at ih ⊢
    omega
theorem join_calls {l : List Tx} (hn : l.length ≤ 1000) (hb : ∀ t ∈ l, t.v.size ≤ 1000) : ACalls Tryd.prog 24 [.c (.sl (rowsOn l)), .c (.str (chB 32))] (.c (.d (.str (joinT l)))) := by
  intro w vals ok hok hgl hargs
  obtain ⟨v, u, rfl, hv, hu⟩ := two_args hargs
  have hlen : (rowsOn l).length = l.length := rowsOn_length l
  simp only [RA, RD] at hv hu
  subst hu
  obtain ⟨A, c, rfl, hc, hr⟩ := hv
  have fin : ∀ (e : Ending) (w' : World), e = .returned (.string (joinT l)) ∧ Below w.heap.size w w' → ∃ v ok' bs, e = .returned v ∧ Below w.heap.size w w' ∧ (∀ b, ok' b → b < w'.heap.size) ∧ (∀ b, ok' b → ok b ∨ w.heap.size ≤ b) ∧
      RRv ok' w' (.c (.d (.str (joinT l)))) v bs ∧ bs.Nodup ∧ ∀ b ∈ bs, ¬ ok' b ∧ w.heap.size ≤ b ∧ b < w'.heap.size := by
    rintro e w' ⟨rfl, hb⟩
    exact ⟨_, ok, [], rfl, hb, fun b h => Nat.lt_of_lt_of_le (hok b h) hb.size, fun b h => .inl h, ⟨rfl, by simp only [RD]⟩, List.nodup_nil, fun b h => by cases h⟩
  by_cases hne : l = []
  · subst hne
    rw [hlen]
    refine (Tryd.strings_Join_none A c (chB 32) w).mono fun e w' h => fin e w' ?_
    obtain ⟨rfl, rfl⟩ := h
    exact ⟨rfl, Below.refl _ _⟩
  · obtain ⟨a, E, rfl, hok', hrd⟩ := hr (by intro h; exact hne (List.eq_nil_of_length_eq_zero (by rw [← hlen, h]; rfl)))
    have hE : E = 1 := by
      cases l with
      | nil => exact absurd rfl hne
      | cons x xs =>
        have := (hrd.get (i := 0) (r := [D.str x.v]) rfl).1
        simpa using this.symm
    subst hE
    have hcell : ∀ (j : Nat) x, (l.map (·.v))[j]? = some x → w.cell? (a.add j) = some (.string x) := by
      intro j x hj
      obtain ⟨_, hrow⟩ := hrd.get (i := j) (r := [D.str x]) (by
        unfold rowsOn
        rw [List.getElem?_map] at hj ⊢
        cases hq : l[j]? with
        | none => rw [hq] at hj; cases hj
        | some t => rw [hq] at hj; simp only [Option.map_some, Option.some.injEq] at hj; subst hj; rfl)
      obtain ⟨u, hu, hd⟩ := hrow.get (i := 0) rfl
      simp only [RD] at hd
      subst hd
      rw [show (0 + j) * 1 + 0 = j by omega] at hu
      exact hu
    obtain ⟨b, o, spot⟩ := a
    have hspot : spot = none := by
      cases l with
      | nil => exact absurd rfl hne
      | cons x xs => simpa [Addr.add] using World.cell?_spot (hcell 0 x.v rfl)
    subst hspot
    rw [hlen]
    have ejl : Lib.join ((l.map (·.v)).map (·.data.toList)) (chB 32).data.toList = joinL l := by
      rw [List.map_map]; rfl
    have hjl : (joinL l).length ≤ 140737488355328 := by
      have := inter_len [32] 1000 (by decide) (l.map fun t => t.v.data.toList) (by
        intro x hx
        obtain ⟨t, ht, rfl⟩ := List.mem_map.1 hx
        exact hb t ht)
      rw [List.length_map] at this
      show (([32] : List UInt8).intercalate (l.map fun t => t.v.data.toList)).length ≤ _
      omega
    have := Tryd.strings_Join b o c (l.map (·.v)) (chB 32) w (fun j x hj => by
      have := hcell j x hj
      rwa [add_lit] at this) (hok b hok') (by rw [List.length_map]; omega) (by rw [List.length_map]; omega) (by rw [ejl]; exact hjl)
    rw [ejl, List.length_map] at this
    exact this.mono fun e w' h => fin e w' h
def rdJ : List A → List Tx × ByteArray
  | [.c (.sl l), .c (.str s)] => (listOf Tx l, s)
  | _ => default
def c_join : FT (List Tx × ByteArray) := ⟨24, fun x => [aTx x.1, at_ x.2], rdJ, fun x => x.1.length ≤ 1000 ∧ (∀ t ∈ x.1, t.v.size ≤ 1000) ∧ x.2 = chB 32, fun x => .c (.d (.str (joinT x.1))), false, fun x => by simp [aTx, at_, rdJ]⟩
theorem c_join_good : c_join.fe.Good Tryd.prog := FT.good c_join ⟨Tryd.f24, by kernel_rfl, by decide +kernel, by kernel_rfl⟩ (fun _ => rfl) fun x hx => by
  obtain ⟨l, s⟩ := x
  obtain ⟨h1, h2, rfl⟩ := hx
  exact join_calls h1 h2
noncomputable def v_join : List Tx × ByteArray → ByteArray := fun x => joinT x.1
noncomputable def sh_join : ByteArray → RR := fun s => .c (.d (.str s))
theorem e_join (x : List Tx × ByteArray) : sh_join (v_join x) = c_join.ans x := rfl
end Go.Proofs.YtmmlolampgnamaaDoor.Ax
end

section
/- Rows of numbers in bytes: code.Put, arch.Numbers, arch.Code, auguryref1.Put, auguryref7.Ints, Code, Same. -/
namespace Go.Proofs.YtmmlolampgnamaaDoor.Ax
open Go.RowKit
set_option linter.unusedVariables false
set_option linter.unusedSimpArgs false
structure By where
  v : Int
  deriving Inhabited, DecidableEq
instance : Row By := ⟨fun p => [.int .u8 p.v], fun r => ⟨asInt (r.getD 0 .nilp)⟩, fun _ => rfl, 1, fun _ => rfl⟩
instance : NoRef By := ⟨fun _ => rfl⟩
def rnum (s : Sta) : RR := .c (.new 1 (rowsOn (numsS s)))
def c_rInts : FT (Sta × Unit) := ⟨32, fun s => [as_ s.1], rdS, fun s => SmallS s.1, fun s => rnum s.1, false, fun s => by simp [as_, rdS]⟩
noncomputable def a_rInts : FnA := (fnA Tryd.prog Tryd.f32 1 []).getD ⟨0, .skip, [], []⟩
def s_rInts : Sp := spT []
theorem s_rInts_sound : s_rInts.sound Tryd.prog := spT_sound fun e he => by cases he
set_option maxRecDepth 100000 in
theorem t_rInts (s : Sta) : a_rInts.start s_rInts 400 [as_ s] =
(VC.need ((List.all (rowsOn s.mem) fun r ↦ List.length r == (1 : Nat)) = true ∧ (List.all [[D.int IntKind.i64 s.r0], [D.int IntKind.i64 s.r1], [D.int IntKind.i64 s.r2], [D.int IntKind.i64 s.r3], [D.int IntKind.i64 (↑(List.length (rowsOn s.mem)) : Int)]] fun r ↦ List.length r == (1 : Nat)) = true ∧ (List.length [[D.int IntKind.i64 s.r0], [D.int IntKind.i64 s.r1], [D.int IntKind.i64 s.r2], [D.int IntKind.i64 s.r3], [D.int IntKind.i64 (↑(List.length (rowsOn s.mem)) : Int)]] + List.length (rowsOn s.mem) + (100 : Nat)) * (9 : Nat) ≤ (70368744177664 : Nat))
(VC.need ((List.all [[D.int IntKind.i64 (↑(List.length (rowsOn s.stack)) : Int)]] fun r ↦ List.length r == (1 : Nat)) = true ∧ (List.all ([[D.int IntKind.i64 s.r0], [D.int IntKind.i64 s.r1], [D.int IntKind.i64 s.r2], [D.int IntKind.i64 s.r3], [D.int IntKind.i64 (↑(List.length (rowsOn s.mem)) : Int)]] ++ rowsOn s.mem) fun r ↦ List.length r == (1 : Nat)) = true ∧ (List.length ([[D.int IntKind.i64 s.r0], [D.int IntKind.i64 s.r1], [D.int IntKind.i64 s.r2], [D.int IntKind.i64 s.r3], [D.int IntKind.i64 (↑(List.length (rowsOn s.mem)) : Int)]] ++ rowsOn s.mem) + List.length [[D.int IntKind.i64 (↑(List.length (rowsOn s.stack)) : Int)]] + (100 : Nat)) * (9 : Nat) ≤ (70368744177664 : Nat))
(VC.need ((List.all (rowsOn s.stack) fun r ↦ List.length r == (1 : Nat)) = true ∧ (List.all ([[D.int IntKind.i64 s.r0], [D.int IntKind.i64 s.r1], [D.int IntKind.i64 s.r2], [D.int IntKind.i64 s.r3], [D.int IntKind.i64 (↑(List.length (rowsOn s.mem)) : Int)]] ++ rowsOn s.mem ++ [[D.int IntKind.i64 (↑(List.length (rowsOn s.stack)) : Int)]]) fun r ↦ List.length r == (1 : Nat)) = true ∧ (List.length ([[D.int IntKind.i64 s.r0], [D.int IntKind.i64 s.r1], [D.int IntKind.i64 s.r2], [D.int IntKind.i64 s.r3], [D.int IntKind.i64 (↑(List.length (rowsOn s.mem)) : Int)]] ++ rowsOn s.mem ++ [[D.int IntKind.i64 (↑(List.length (rowsOn s.stack)) : Int)]]) + List.length (rowsOn s.stack) + (100 : Nat)) * (9 : Nat) ≤ (70368744177664 : Nat))
(VC.need ((List.all [[D.int IntKind.i64 s.pc]] fun r ↦ List.length r == (1 : Nat)) = true ∧ (List.all ([[D.int IntKind.i64 s.r0], [D.int IntKind.i64 s.r1], [D.int IntKind.i64 s.r2], [D.int IntKind.i64 s.r3], [D.int IntKind.i64 (↑(List.length (rowsOn s.mem)) : Int)]] ++ rowsOn s.mem ++ [[D.int IntKind.i64 (↑(List.length (rowsOn s.stack)) : Int)]] ++ rowsOn s.stack) fun r ↦ List.length r == (1 : Nat)) = true ∧ (List.length ([[D.int IntKind.i64 s.r0], [D.int IntKind.i64 s.r1], [D.int IntKind.i64 s.r2], [D.int IntKind.i64 s.r3], [D.int IntKind.i64 (↑(List.length (rowsOn s.mem)) : Int)]] ++ rowsOn s.mem ++ [[D.int IntKind.i64 (↑(List.length (rowsOn s.stack)) : Int)]] ++ rowsOn s.stack) + List.length [[D.int IntKind.i64 s.pc]] + (100 : Nat)) * (9 : Nat) ≤ (70368744177664 : Nat))
(VC.ret (some (RR.c (Rc.new (1 : Nat) ([[D.int IntKind.i64 s.r0], [D.int IntKind.i64 s.r1], [D.int IntKind.i64 s.r2], [D.int IntKind.i64 s.r3], [D.int IntKind.i64 (↑(List.length (rowsOn s.mem)) : Int)]] ++ rowsOn s.mem ++ [[D.int IntKind.i64 (↑(List.length (rowsOn s.stack)) : Int)]] ++ rowsOn s.stack ++ [[D.int IntKind.i64 s.pc]]))))))))) := by kernel_rfl
theorem all1 (l : List Int) : ((rowsOn l).all fun r => r.length == 1) = true := rowsOn_all l 1 rfl
theorem rnum_eq (s : Sta) : ([[D.int .i64 s.r0], [.int .i64 s.r1], [.int .i64 s.r2], [.int .i64 s.r3], [.int .i64 ((rowsOn s.mem).length : Int)]] ++ rowsOn s.mem ++ [[.int .i64 ((rowsOn s.stack).length : Int)]] ++ rowsOn s.stack ++ [[.int .i64 s.pc]]) = rowsOn (numsS s) := by
  simp only [numsS, rowsOn_append, rowsOn_length]
  rfl
theorem c_rInts_good : c_rInts.fe.Good Tryd.prog := by
  refine FT.good c_rInts ⟨Tryd.f32, by kernel_rfl, by decide +kernel, by kernel_rfl⟩ (fun ⟨s, u⟩ => by first | rfl | simp [c_rInts, rrRef, rss, rnewI, rnewE, rstab, rplaces, ri, rb, rib, rnum, Sta.fresh]) fun ⟨s, u⟩ hp => ?_
  refine acalls_le s_rInts_sound (fn := Tryd.f32) (a := a_rInts) (nargs := 1) (tbl := []) (by kernel_rfl) (by kernel_rfl) rfl (m := 400) ?_
  show VC.holds _ _ _ (a_rInts.start s_rInts 400 [as_ s])
  rw [t_rInts]
  try simp only [asRows_sl, asInt_int, asBool_bool, asStr_str, listOf_rowsOn, List.drop_zero, Prg.eta, Sta.eta, rowsOn_length, getD_drop, Nat.reduceAdd, rd_int, rd_PMem_name, rd_PMem_secret, rd_PMem_n, rd_PLabel_name, rd_PLabel_at_, rd_Ins_kind, rd_Ins_op, rd_Ins_d, rd_Ins_aR, rd_Ins_aN, rd_Ins_bR, rd_Ins_bN, rd_Ins_name, rd_Ins_target, rd_Ent_pc, rd_Ent_val, rd_Ent_addr, rd_Ent_fro, rd_Ent_next, rd_Ent_done, rd_Ent_known, rd_Ent_fault, rd_Place_reg, rd_Place_n, rd_Place_secret, rd_Obs_kind, rd_Obs_at_, rd_Dir_kind, rd_Dir_n]
  try simp only [c_rInts] at hp
  obtain ⟨h1, h2⟩ := hp
  have e := rnum_eq s
  rw [rowsOn_length, rowsOn_length] at e
  rw [e]
  repeat' first
    | refine br_not ?_
    | refine br_dec (fun _ => ?_) (fun _ => ?_)
    | refine br_beq (fun _ => ?_) (fun _ => ?_)
    | refine br_bne (fun _ => ?_) (fun _ => ?_)
    | refine br_holds (fun _ => ?_) (fun _ => ?_)
    | refine ⟨PreOk.mk ?_ rfl, ?_⟩
    | refine ⟨idx_ok _ _ _ rfl (by omega) (by omega), ?_⟩
    | refine ⟨okSh_ok _ _ _ (fun _ => rfl) (by omega) (by omega), ?_⟩
    | refine ⟨okSh_okD _ _ _ _ (fun _ => rfl) (by omega) (by omega), ?_⟩
    | refine ⟨aload_ok _ _ rfl (fun _ => rfl) (by omega) (by omega), ?_⟩
    | refine ⟨aload_okD _ _ _ rfl (fun _ => rfl) (by omega) (by omega), ?_⟩
    | refine ⟨astore_ok (by assumption) rfl (by omega) (by omega) (by decide), ?_⟩
    | refine ⟨app_ok (by assumption) rfl rfl (by simp only [List.length_cons, List.length_nil]; omega), ?_⟩
    | refine need_holds ?_ fun _ => ?_
    | refine all_holds fun y hy => ?_
    | refine ret_le ?_
  all_goals try (refine ⟨?_, ?_, ?_⟩ <;> simp [all1, rowsOn_length] <;> omega)
  · exact RR.le_refl _
def rby (l : List By) : RR := .c (.new 1 (rowsOn l))
theorem nums_len (s : Sta) : (numsS s).length = s.mem.length + s.stack.length + 7 := by simp [numsS]; omega
def c_rSameI : FT (List Int × List Int) := ⟨31, fun x => [al x.1, al x.2], rdLL, fun x => x.1.length ≤ 1000000000, fun x => rb (decide (x.1 = x.2)), false, fun x => by simp [al, rdLL]⟩
noncomputable def a_rSameI : FnA := (fnA Tryd.prog Tryd.f31 2 [(4, [0, 1, 5])]).getD ⟨0, .skip, [], []⟩
def s_rSameI : Sp := spT []
theorem s_rSameI_sound : s_rSameI.sound Tryd.prog := spT_sound fun e he => by cases he
def F_rSameI (a b : List Int) (k : Int) : St := ⟨mkS 26 [(0, vr (rowsOn a)), (1, vr (rowsOn b)), (5, vi k)], []⟩
set_option maxRecDepth 100000 in
theorem t_rSameI (a b : List Int) : a_rSameI.start s_rSameI 400 [al a, al b] =
(VC.br ((↑(List.length (rowsOn a)) : Int) != (↑(List.length (rowsOn b)) : Int))
 (VC.ret (some (RR.c (Rc.d (D.bool false)))))
 (FnA.at_ a_rSameI 0 (F_rSameI a b (0 : Int)))) := by kernel_rfl
set_option maxRecDepth 100000 in
theorem t_rSameI0 (a b : List Int) (k : Int) : a_rSameI.round s_rSameI 400 0 (F_rSameI a b k) =
(VC.br (decide (k < (↑(List.length (rowsOn a)) : Int)))
 (VC.need ((0 : Int) ≤ k ∧ k < (↑(List.length (rowsOn a)) : Int) ∧ List.length (rowAt (rowsOn a) (Int.toNat k)) = (1 : Nat))
 (VC.need (okSh [Kd.int IntKind.i64] (rowAt (rowsOn a) (Int.toNat k)))
 (VC.need ((0 : Int) ≤ k ∧ k < (↑(List.length (rowsOn b)) : Int) ∧ List.length (rowAt (rowsOn b) (Int.toNat k)) = (1 : Nat))
 (VC.need (okSh [Kd.int IntKind.i64] (rowAt (rowsOn b) (Int.toNat k)))
 (VC.br (asInt (List.getD (rowAt (rowsOn a) (Int.toNat k)) (0 : Nat) D.nilp) != asInt (List.getD (rowAt (rowsOn b) (Int.toNat k)) (0 : Nat) D.nilp))
  (VC.ret (some (RR.c (Rc.d (D.bool false)))))
  (FnA.at_ a_rSameI 0 (F_rSameI a b (IntKind.wrap IntKind.i64 (k + (1 : Int))))))))))
 (VC.ret (some (RR.c (Rc.d (D.bool true)))))) := by kernel_rfl
theorem eq_dropG {α : Type} [Row α] {a b : List α} {k : Int} (hl : a.length = b.length) (h0 : 0 ≤ k) (h1 : k < a.length) : (a.drop k.toNat = b.drop k.toNat) ↔ rd a k = rd b k ∧ a.drop (k + 1).toNat = b.drop (k + 1).toNat := by
  rw [drop_rd a k h0 h1, drop_rd b k h0 (by omega)]
  simp
theorem l_rSameI0 (a b : List Int) (res : Bool) (hl : a.length = b.length) (hb : a.length ≤ 1000000000) : ∀ i_ : Int, (fun (i : Int) => 0 ≤ i ∧ i ≤ a.length ∧ decide (a.drop i.toNat = b.drop i.toNat) = res) i_ → (a_rSameI.at_ 0 ((fun (i : Int) => F_rSameI a b i) i_)).holds s_rSameI.cx a_rSameI.rs (fun r => r.le (rb res)) := by
  refine loop_rule (a := a_rSameI) (j := 0) (m := 400) s_rSameI_sound (fun (i : Int) => F_rSameI a b i) (fun (i : Int) => 0 ≤ i ∧ i ≤ a.length ∧ decide (a.drop i.toNat = b.drop i.toNat) = res) (fun (i : Int) => ((a.length : Int) - i).toNat) ?_
  rintro k h_inv ih
  try dsimp only at h_inv
  show VC.holds _ _ _ (a_rSameI.round s_rSameI 400 0 (F_rSameI a b k))
  rw [t_rSameI0]
  try simp only [asRows_sl, asInt_int, asBool_bool, asStr_str, listOf_rowsOn, List.drop_zero, Prg.eta, Sta.eta, rowsOn_length, getD_drop, Nat.reduceAdd, rd_int, rd_PMem_name, rd_PMem_secret, rd_PMem_n, rd_PLabel_name, rd_PLabel_at_, rd_Ins_kind, rd_Ins_op, rd_Ins_d, rd_Ins_aR, rd_Ins_aN, rd_Ins_bR, rd_Ins_bN, rd_Ins_name, rd_Ins_target, rd_Ent_pc, rd_Ent_val, rd_Ent_addr, rd_Ent_fro, rd_Ent_next, rd_Ent_done, rd_Ent_known, rd_Ent_fault, rd_Place_reg, rd_Place_n, rd_Place_secret, rd_Obs_kind, rd_Obs_at_, rd_Dir_kind, rd_Dir_n]
  obtain ⟨h0, h1, h2⟩ := h_inv
  have w1 : IntKind.wrap .i64 (k + 1) = k + 1 := wrap_small _ (by omega) (by omega)
  rw [w1]
  repeat' first
    | refine br_not ?_
    | refine br_dec (fun _ => ?_) (fun _ => ?_)
    | refine br_beq (fun _ => ?_) (fun _ => ?_)
    | refine br_bne (fun _ => ?_) (fun _ => ?_)
    | refine br_holds (fun _ => ?_) (fun _ => ?_)
    | refine ⟨PreOk.mk ?_ rfl, ?_⟩
    | refine ⟨idx_ok _ _ _ rfl (by omega) (by omega), ?_⟩
    | refine ⟨okSh_ok _ _ _ (fun _ => rfl) (by omega) (by omega), ?_⟩
    | refine ⟨okSh_okD _ _ _ _ (fun _ => rfl) (by omega) (by omega), ?_⟩
    | refine ⟨aload_ok _ _ rfl (fun _ => rfl) (by omega) (by omega), ?_⟩
    | refine ⟨aload_okD _ _ _ rfl (fun _ => rfl) (by omega) (by omega), ?_⟩
    | refine ⟨astore_ok (by assumption) rfl (by omega) (by omega) (by decide), ?_⟩
    | refine ⟨app_ok (by assumption) rfl rfl (by simp only [List.length_cons, List.length_nil]; omega), ?_⟩
    | refine need_holds ?_ fun _ => ?_
    | refine all_holds fun y hy => ?_
    | refine ret_le ?_
    | refine ih _ ?_ ?_
  all_goals try omega
  · refine ⟨by omega, by omega, ?_⟩
    rw [← h2]
    exact decide_eq_decide.2 ⟨fun h => (eq_dropG hl h0 ‹_›).2 ⟨‹_›, h⟩, fun h => ((eq_dropG hl h0 ‹_›).1 h).2⟩
  · refine rb_le ?_
    rw [← h2]
    exact (decide_eq_false fun h => absurd ((eq_dropG hl h0 ‹_›).1 h).1 ‹_›).symm
  · refine rb_le ?_
    have hk : k.toNat = a.length := by omega
    rw [← h2, hk, List.drop_length, hl, List.drop_length]
    rfl
theorem c_rSameI_good : c_rSameI.fe.Good Tryd.prog := by
  refine FT.good c_rSameI ⟨Tryd.f31, by kernel_rfl, by decide +kernel, by kernel_rfl⟩ (fun ⟨a, b⟩ => by first | rfl | simp [c_rSameI, rrRef, rss, rnewI, rnewE, rstab, rplaces, ri, rb, rib, rnum, rby, Sta.fresh]) fun ⟨a, b⟩ hp => ?_
  refine acalls_le s_rSameI_sound (fn := Tryd.f31) (a := a_rSameI) (nargs := 2) (tbl := [(4, [0, 1, 5])]) (by kernel_rfl) (by kernel_rfl) rfl (m := 400) ?_
  show VC.holds _ _ _ (a_rSameI.start s_rSameI 400 [al a, al b])
  rw [t_rSameI]
  try simp only [asRows_sl, asInt_int, asBool_bool, asStr_str, listOf_rowsOn, List.drop_zero, Prg.eta, Sta.eta, rowsOn_length, getD_drop, Nat.reduceAdd, rd_int, rd_PMem_name, rd_PMem_secret, rd_PMem_n, rd_PLabel_name, rd_PLabel_at_, rd_Ins_kind, rd_Ins_op, rd_Ins_d, rd_Ins_aR, rd_Ins_aN, rd_Ins_bR, rd_Ins_bN, rd_Ins_name, rd_Ins_target, rd_Ent_pc, rd_Ent_val, rd_Ent_addr, rd_Ent_fro, rd_Ent_next, rd_Ent_done, rd_Ent_known, rd_Ent_fault, rd_Place_reg, rd_Place_n, rd_Place_secret, rd_Obs_kind, rd_Obs_at_, rd_Dir_kind, rd_Dir_n]
  try simp only [c_rSameI] at hp
  repeat' first
    | refine br_not ?_
    | refine br_dec (fun _ => ?_) (fun _ => ?_)
    | refine br_beq (fun _ => ?_) (fun _ => ?_)
    | refine br_bne (fun _ => ?_) (fun _ => ?_)
    | refine br_holds (fun _ => ?_) (fun _ => ?_)
    | refine ⟨PreOk.mk ?_ rfl, ?_⟩
    | refine ⟨idx_ok _ _ _ rfl (by omega) (by omega), ?_⟩
    | refine ⟨okSh_ok _ _ _ (fun _ => rfl) (by omega) (by omega), ?_⟩
    | refine ⟨okSh_okD _ _ _ _ (fun _ => rfl) (by omega) (by omega), ?_⟩
    | refine ⟨aload_ok _ _ rfl (fun _ => rfl) (by omega) (by omega), ?_⟩
    | refine ⟨aload_okD _ _ _ rfl (fun _ => rfl) (by omega) (by omega), ?_⟩
    | refine ⟨astore_ok (by assumption) rfl (by omega) (by omega) (by decide), ?_⟩
    | refine ⟨app_ok (by assumption) rfl rfl (by simp only [List.length_cons, List.length_nil]; omega), ?_⟩
    | refine need_holds ?_ fun _ => ?_
    | refine all_holds fun y hy => ?_
    | refine ret_le ?_
  · have e : c_rSameI.ans (a, b) = rb (decide (a = b)) := rfl
    rw [e]
    exact l_rSameI0 a b _ (by omega) hp 0 ⟨by omega, by omega, by simp⟩
  · exact rb_le (decide_eq_false fun h => by have h : a = b := h; subst h; omega).symm
end Go.Proofs.YtmmlolampgnamaaDoor.Ax
end

section
/- States in bytes, by the document: auguryref7.Code, Same; what numbers tell of a state. -/
namespace Go.Proofs.YtmmlolampgnamaaDoor.Ax
open Go.RowKit
set_option linter.unusedVariables false
set_option linter.unusedSimpArgs false
theorem numsS_inj {a b : Sta} (h : numsS a = numsS b) : a = b := by
  have hl : a.mem.length = b.mem.length := by
    have : (a.mem.length : Int) = b.mem.length := by
      have := congrArg (fun l : List Int => l.getD 4 0) h
      simpa [numsS] using this
    exact_mod_cast this
  unfold numsS at h
  simp only [List.cons_append, List.nil_append, List.cons.injEq, List.append_assoc] at h
  obtain ⟨h0, h1, h2, h3, _, h4⟩ := h
  obtain ⟨h5, h6⟩ := List.append_inj h4 hl
  simp only [List.cons.injEq] at h6
  obtain ⟨h7, h8⟩ := h6
  obtain ⟨h9, h10⟩ := List.append_inj h8 (by omega)
  simp only [List.cons.injEq, and_true] at h10
  exact Sta.eq_iff.2 ⟨h0, h1, h2, h3, h5, h9, h10⟩
noncomputable def v_rInts : Sta × Unit → List Int := fun x => numsS x.1
noncomputable def sh_rInts : List Int → RR := fun l => .c (.new 1 (rowsOn l))
theorem e_rInts (x : Sta × Unit) : sh_rInts (v_rInts x) = c_rInts.ans x := rfl
def c_rSame : FT (Sta × Sta) := ⟨11, fun x => [as_ x.1, as_ x.2], rdSS, fun x => SmallS x.1 ∧ SmallS x.2, fun x => rb (decide (x.1 = x.2)), false, fun s => by simp [as_, rdSS]⟩
noncomputable def a_rSame : FnA := (fnA Tryd.prog Tryd.f11 2 []).getD ⟨0, .skip, [], []⟩
noncomputable def s_rSame : Sp := spT [c_rInts.gfe v_rInts sh_rInts e_rInts, c_rSameI.fe]
theorem s_rSame_sound : s_rSame.sound Tryd.prog := spT_sound fun e he => by
  simp only [List.mem_cons, List.not_mem_nil, or_false] at he
  rcases he with rfl | rfl
  · exact FT.gfe_good c_rInts_good
  · exact c_rSameI_good
set_option maxRecDepth 100000 in
theorem t_rSame (s t : Sta) : a_rSame.start s_rSame 400 [as_ s, as_ t] =
(VC.need (PreOk c_rInts (Sta.of (Sta.cells s), ()) [A.agg (Sta.cells s)])
(VC.all (v_rInts (Sta.of (Sta.cells s), ())) fun (y2 : List Int) =>
(VC.need (PreOk c_rInts (Sta.of (Sta.cells t), ()) [A.agg (Sta.cells t)])
(VC.all (v_rInts (Sta.of (Sta.cells t), ())) fun (y3 : List Int) =>
(VC.need (PreOk c_rSameI (y2, y3) [A.c (D.sl (rowsOn y2)), A.c (D.sl (rowsOn y3))])
(VC.ret (some (RR.c (Rc.d (D.bool (decide (listOf Int (rowsOn y2) = listOf Int (rowsOn y3))))))))))))) := by kernel_rfl
theorem c_rSame_good : c_rSame.fe.Good Tryd.prog := by
  refine FT.good c_rSame ⟨Tryd.f11, by kernel_rfl, by decide +kernel, by kernel_rfl⟩ (fun ⟨s, t⟩ => by first | rfl | simp [c_rSame, rrRef, rnum, rby, rss, rnewI, rnewE, rstab, rplaces, ri, rb, rib, Sta.fresh]) fun ⟨s, t⟩ hp => ?_
  refine acalls_le s_rSame_sound (fn := Tryd.f11) (a := a_rSame) (nargs := 2) (tbl := []) (by kernel_rfl) (by kernel_rfl) rfl (m := 400) ?_
  show VC.holds _ _ _ (a_rSame.start s_rSame 400 [as_ s, as_ t])
  rw [t_rSame]
  try simp only [asRows_sl, asInt_int, asBool_bool, asStr_str, listOf_rowsOn, List.drop_zero, Prg.eta, Sta.eta, rowsOn_length, getD_drop, Nat.reduceAdd, rd_int, rd_PMem_name, rd_PMem_secret, rd_PMem_n, rd_PLabel_name, rd_PLabel_at_, rd_Ins_kind, rd_Ins_op, rd_Ins_d, rd_Ins_aR, rd_Ins_aN, rd_Ins_bR, rd_Ins_bN, rd_Ins_name, rd_Ins_target, rd_Ent_pc, rd_Ent_val, rd_Ent_addr, rd_Ent_fro, rd_Ent_next, rd_Ent_done, rd_Ent_known, rd_Ent_fault, rd_Place_reg, rd_Place_n, rd_Place_secret, rd_Obs_kind, rd_Obs_at_, rd_Dir_kind, rd_Dir_n]
  try simp only [c_rSame] at hp
  obtain ⟨⟨h1, h2⟩, ⟨h3, h4⟩⟩ := hp
  have hl := nums_len s
  simp only [Sta.of_cells]
  repeat' first
    | refine br_not ?_
    | refine br_dec (fun _ => ?_) (fun _ => ?_)
    | refine br_beq (fun _ => ?_) (fun _ => ?_)
    | refine br_bne (fun _ => ?_) (fun _ => ?_)
    | refine br_holds (fun _ => ?_) (fun _ => ?_)
    | refine ⟨PreOk.mk ?_ rfl, ?_⟩
    | refine ⟨idx_ok _ _ _ rfl (by omega) (by omega), ?_⟩
    | refine ⟨okSh_ok _ _ _ (fun _ => rfl) (by omega) (by omega), ?_⟩
    | refine ⟨okSh_okD _ _ _ _ (fun _ => rfl) (by omega) (by omega), ?_⟩
    | refine ⟨aload_ok _ _ rfl (fun _ => rfl) (by omega) (by omega), ?_⟩
    | refine ⟨aload_okD _ _ _ rfl (fun _ => rfl) (by omega) (by omega), ?_⟩
    | refine ⟨astore_ok (by assumption) rfl (by omega) (by omega) (by decide), ?_⟩
    | refine ⟨app_ok (by assumption) rfl rfl (by simp only [List.length_cons, List.length_nil]; omega), ?_⟩
    | refine need_holds ?_ fun _ => ?_
    | refine all_holds fun y hy => ?_
    | refine ret_le ?_
  · exact ⟨h1, h2⟩
  · exact ⟨h3, h4⟩
  · subst_vars
    show (numsS s).length ≤ 1000000000
    omega
  · subst_vars
    exact rb_le (decide_eq_decide.2 ⟨numsS_inj, fun h => by have h : s = t := h; subst h; rfl⟩)
end Go.Proofs.YtmmlolampgnamaaDoor.Ax
end

section
/- Places and states that look alike, plainly. -/
namespace Go.Proofs.YtmmlolampgnamaaDoor.Ax
open Go.RowKit
set_option linter.unusedVariables false
set_option linter.unusedSimpArgs false
theorem rd_right {α : Type} [Row α] (l m : List α) (i : Int) (h : (l.length : Int) ≤ i) : rd (l ++ m) i = rd m (i - l.length) := by
  unfold rd
  rw [List.getD_eq_getElem?_getD, List.getD_eq_getElem?_getD, List.getElem?_append_right (by omega)]
  congr 2
  omega
/-- Whether a cell is secret. -/
def secM : List PMem → Int → Bool
  | [], _ => false
  | m :: ms, j => if j < m.n then m.secret else secM ms (j - m.n)
theorem mem_memPlace {n at_ : Int} {s : Bool} {x : Place} (h : 0 ≤ n) : x ∈ memPlace n at_ s ↔ x.reg = false ∧ at_ ≤ x.n ∧ x.n < at_ + n ∧ x.secret = s := by
  unfold memPlace
  simp only [List.mem_map, List.mem_range]
  constructor
  · rintro ⟨k, hk, rfl⟩
    exact ⟨rfl, by dsimp only; omega, by dsimp only; omega, rfl⟩
  · rintro ⟨h1, h2, h3, h4⟩
    refine ⟨(x.n - at_).toNat, by omega, ?_⟩
    obtain ⟨r, n', s'⟩ := x
    simp only at h1 h2 h3 h4
    simp only [Place.mk.injEq]
    exact ⟨h1.symm, by omega, h4.symm⟩
theorem mem_memPlaces : ∀ (ms : List PMem) (at_ : Int), (∀ m ∈ ms, 0 ≤ m.n ∧ m.n ≤ 16) → ∀ x : Place, x ∈ memPlaces ms at_ ↔ x.reg = false ∧ at_ ≤ x.n ∧ x.n < at_ + cellsS ms ∧ x.secret = secM ms (x.n - at_)
  | [], at_, _, x => by
    simp only [memPlaces, cellsS, List.not_mem_nil, false_iff]
    intro h; omega
  | m :: ms, at_, h, x => by
    have h0 := h m (by simp)
    have hc := cellsS_nonneg (ms := ms) fun y hy => h y (by simp [hy])
    rw [memPlaces, List.mem_append, mem_memPlace h0.1, mem_memPlaces ms (at_ + m.n) (fun y hy => h y (by simp [hy])) x]
    simp only [cellsS, secM]
    have e : x.n - (at_ + m.n) = x.n - at_ - m.n := by omega
    rw [e]
    by_cases hx : x.n - at_ < m.n
    · rw [if_pos hx]
      constructor
      · rintro (⟨h1, h2, h3, h4⟩ | ⟨h1, h2, h3, h4⟩)
        · exact ⟨h1, h2, by omega, h4⟩
        · omega
      · rintro ⟨h1, h2, h3, h4⟩
        exact .inl ⟨h1, h2, by omega, h4⟩
    · rw [if_neg hx]
      constructor
      · rintro (⟨h1, h2, h3, h4⟩ | ⟨h1, h2, h3, h4⟩)
        · omega
        · exact ⟨h1, by omega, by omega, h4⟩
      · rintro ⟨h1, h2, h3, h4⟩
        exact .inr ⟨h1, by omega, by omega, h4⟩
theorem mem_regPlace {n r : Int} {x : Place} : x ∈ regPlace n r ↔ n ≠ 0 ∧ x.reg = true ∧ x.n = r ∧ x.secret = decide (n = 2) := by
  obtain ⟨a, b, c⟩ := x
  unfold regPlace
  by_cases h : n = 0
  · simp [h]
  · simp [h]
theorem Prg.reg_cases (p : Prg) {r : Int} (h : 0 ≤ r ∧ r < 4) : (r = 0 ∧ p.reg r = p.r0) ∨ (r = 1 ∧ p.reg r = p.r1) ∨ (r = 2 ∧ p.reg r = p.r2) ∨ (r = 3 ∧ p.reg r = p.r3) := by
  have : r = 0 ∨ r = 1 ∨ r = 2 ∨ r = 3 := by omega
  rcases this with rfl | rfl | rfl | rfl <;> simp [Prg.reg]
theorem mem_regPlaces (p : Prg) (x : Place) : x ∈ regPlaces p ↔ x.reg = true ∧ 0 ≤ x.n ∧ x.n < 4 ∧ p.reg x.n ≠ 0 ∧ x.secret = decide (p.reg x.n = 2) := by
  unfold regPlaces
  simp only [List.mem_append, mem_regPlace]
  constructor
  · rintro (((⟨h1, h2, h3, h4⟩ | ⟨h1, h2, h3, h4⟩) | ⟨h1, h2, h3, h4⟩) | ⟨h1, h2, h3, h4⟩)
    all_goals (rw [h3]; refine ⟨h2, by omega, by omega, ?_⟩; simpa [Prg.reg] using ⟨h1, h4⟩)
  · rintro ⟨h1, h2, h3, h4, h5⟩
    rcases p.reg_cases ⟨h2, h3⟩ with ⟨e, h⟩ | ⟨e, h⟩ | ⟨e, h⟩ | ⟨e, h⟩ <;> rw [h] at h4 h5
    · exact .inl (.inl (.inl ⟨h4, h1, e, h5⟩))
    · exact .inl (.inl (.inr ⟨h4, h1, e, h5⟩))
    · exact .inl (.inr ⟨h4, h1, e, h5⟩)
    · exact .inr ⟨h4, h1, e, h5⟩
theorem mem_places (p : Prg) (hm : Mems p.mems) (x : Place) : x ∈ placesS p ↔ (x.reg = true ∧ 0 ≤ x.n ∧ x.n < 4 ∧ p.reg x.n ≠ 0 ∧ x.secret = decide (p.reg x.n = 2)) ∨ (x.reg = false ∧ 0 ≤ x.n ∧ x.n < cellsS p.mems ∧ x.secret = secM p.mems x.n) := by
  unfold placesS
  rw [List.mem_append, mem_regPlaces, mem_memPlaces p.mems 0 hm.n]
  simp
/-- No place comes twice. -/
def PApart (x y : Place) : Prop := ¬ (x.reg = y.reg ∧ x.n = y.n)
theorem memPlace_apart (n at_ : Int) (s : Bool) : (memPlace n at_ s).Pairwise PApart := by
  unfold memPlace
  rw [List.pairwise_map]
  refine List.Pairwise.imp ?_ List.pairwise_lt_range
  rintro a b h ⟨_, h2⟩
  simp only at h2
  omega
theorem memPlaces_apart : ∀ (ms : List PMem) (at_ : Int), (∀ m ∈ ms, 0 ≤ m.n ∧ m.n ≤ 16) → (memPlaces ms at_).Pairwise PApart
  | [], _, _ => List.Pairwise.nil
  | m :: ms, at_, h => by
    rw [memPlaces, List.pairwise_append]
    refine ⟨memPlace_apart .., memPlaces_apart ms _ fun y hy => h y (by simp [hy]), ?_⟩
    intro x hx y hy ⟨_, h2⟩
    rw [mem_memPlace (h m (by simp)).1] at hx
    rw [mem_memPlaces ms _ fun y hy => h y (by simp [hy])] at hy
    omega
theorem regPlaces_apart (p : Prg) : (regPlaces p).Pairwise PApart := by
  have h1 : ∀ n r, (regPlace n r).Pairwise PApart := by
    intro n r; unfold regPlace; split <;> simp
  have h2 : ∀ n r m q, r ≠ q → ∀ x ∈ regPlace n r, ∀ y ∈ regPlace m q, PApart x y := by
    intro n r m q hne x hx y hy ⟨_, h⟩
    rw [mem_regPlace] at hx hy
    exact hne (by rw [← hx.2.2.1, ← hy.2.2.1, h])
  unfold regPlaces
  simp only [List.pairwise_append, List.mem_append]
  refine ⟨⟨⟨h1 _ _, h1 _ _, h2 _ _ _ _ (by decide)⟩, h1 _ _, ?_⟩, h1 _ _, ?_⟩
  · rintro x (hx | hx) y hy
    · exact h2 _ _ _ _ (by decide) x hx y hy
    · exact h2 _ _ _ _ (by decide) x hx y hy
  · rintro x ((hx | hx) | hx) y hy
    · exact h2 _ _ _ _ (by decide) x hx y hy
    · exact h2 _ _ _ _ (by decide) x hx y hy
    · exact h2 _ _ _ _ (by decide) x hx y hy
theorem places_apart (p : Prg) (hm : Mems p.mems) : (placesS p).Pairwise PApart := by
  unfold placesS
  rw [List.pairwise_append]
  refine ⟨regPlaces_apart p, memPlaces_apart _ _ hm.n, ?_⟩
  intro x hx y hy ⟨h, _⟩
  rw [mem_regPlaces] at hx
  rw [mem_memPlaces p.mems 0 hm.n] at hy
  rw [hx.1, hy.1] at h; cases h

/-! What a place holds. -/
def holdP (s : Sta) (x : Place) : Int := if x.reg then s.reg x.n else rd s.mem x.n
theorem reg_setReg (s : Sta) {r q : Int} (n : Int) (hr : 0 ≤ r ∧ r < 4) (hq : 0 ≤ q ∧ q < 4) : (s.setReg r n).reg q = if q = r then n else s.reg q := by
  have h1 : r = 0 ∨ r = 1 ∨ r = 2 ∨ r = 3 := by omega
  have h2 : q = 0 ∨ q = 1 ∨ q = 2 ∨ q = 3 := by omega
  rcases h1 with rfl | rfl | rfl | rfl <;> rcases h2 with rfl | rfl | rfl | rfl <;> rfl
theorem setReg_mem (s : Sta) (r n : Int) : (s.setReg r n).mem = s.mem ∧ (s.setReg r n).stack = s.stack ∧ (s.setReg r n).pc = s.pc := by
  unfold Sta.setReg
  repeat' split
  all_goals exact ⟨rfl, rfl, rfl⟩
theorem rd_set {l : List Int} {i j : Int} (v : Int) (hi : 0 ≤ i ∧ i < l.length) (hj : 0 ≤ j) : rd (l.set i.toNat v) j = if j = i then v else rd l j := by
  unfold rd
  rw [List.getD_eq_getElem?_getD, List.getD_eq_getElem?_getD, List.getElem?_set]
  by_cases h : j = i
  · subst h; rw [if_pos rfl, if_pos (by omega), if_pos rfl]; rfl
  · rw [if_neg (by omega), if_neg h]
/-! A state that was begun. -/
theorem fill_hold (w : Int) (c : Int) : ∀ (q : List Place) (l : List Int) (s : Sta), PlacesOk q c → q.Pairwise PApart → l.length = q.length → s.mem.length = c →
    (fillS w q l s).mem.length = c ∧ (fillS w q l s).stack = s.stack ∧ (fillS w q l s).pc = s.pc ∧
    (∀ i : Nat, (h : i < q.length) → holdP (fillS w q l s) q[i] = maskS w (rd l i)) ∧
    (∀ r, 0 ≤ r ∧ r < 4 → (∀ x ∈ q, x.reg = true → x.n ≠ r) → (fillS w q l s).reg r = s.reg r) ∧
    (∀ j, 0 ≤ j ∧ j < c → (∀ x ∈ q, x.reg = false → x.n ≠ j) → rd (fillS w q l s).mem j = rd s.mem j)
  | [], l, s, _, _, _, hc => by
    have e : fillS w [] l s = s := by cases l <;> rfl
    rw [e]
    exact ⟨hc, rfl, rfl, fun i h => by simp at h, fun _ _ _ => rfl, fun _ _ _ => rfl⟩
  | x :: q, [], s, _, _, hl, _ => by simp at hl
  | x :: q, n :: l, s, hq, ha, hl, hc => by
    have hx := hq x (by simp)
    have hq' : PlacesOk q c := fun y hy => hq y (by simp [hy])
    obtain ⟨ha1, ha2⟩ := List.pairwise_cons.1 ha
    have e : fillS w (x :: q) (n :: l) s = fillS w q l (putPlace s x (maskS w n)) := rfl
    rw [e]
    obtain ⟨xr, xn, xs⟩ := x
    cases xr with
    | true =>
      have hr0 := hx.1 rfl
      have e2 : putPlace s ⟨true, xn, xs⟩ (maskS w n) = s.setReg xn (maskS w n) := rfl
      rw [e2]
      obtain ⟨m1, m2, m3⟩ := setReg_mem s xn (maskS w n)
      obtain ⟨h1, h2, h3, h4, h5, h6⟩ := fill_hold w c q l (s.setReg xn (maskS w n)) hq' ha2 (by simpa using hl) (by rw [m1]; exact hc)
      refine ⟨h1, h2.trans m2, h3.trans m3, fun i hi => ?_, fun r hr hn => ?_, fun j hj hn => ?_⟩
      · cases i with
        | zero =>
          show holdP _ (⟨true, xn, xs⟩ : Place) = maskS w (rd (n :: l) ((0 : Nat) : Int))
          unfold holdP
          rw [if_pos rfl, h5 xn hr0 fun y hy hyr hyn => ha1 y hy ⟨hyr.symm, hyn.symm⟩, reg_setReg s _ hr0 hr0, if_pos rfl]
          rfl
        | succ i =>
          have h4i := h4 i (by simpa using hi)
          simp only [List.getElem_cons_succ]
          rw [h4i]
          congr 1
      · rw [h5 r hr fun y hy => hn y (by simp [hy]), reg_setReg s _ hr0 hr, if_neg fun e => hn _ (by simp) rfl e.symm]
      · rw [h6 j hj fun y hy => hn y (by simp [hy]), m1]
    | false =>
      have hr0 := hx.2 rfl
      have e2 : putPlace s ⟨false, xn, xs⟩ (maskS w n) = { s with mem := s.mem.set xn.toNat (maskS w n) } := rfl
      rw [e2]
      obtain ⟨h1, h2, h3, h4, h5, h6⟩ := fill_hold w c q l { s with mem := s.mem.set xn.toNat (maskS w n) } hq' ha2 (by simpa using hl) (by simpa using hc)
      refine ⟨h1, h2, h3, fun i hi => ?_, fun r hr hn => ?_, fun j hj hn => ?_⟩
      · cases i with
        | zero =>
          show holdP _ (⟨false, xn, xs⟩ : Place) = maskS w (rd (n :: l) ((0 : Nat) : Int))
          unfold holdP
          rw [if_neg (by simp)]
          show rd (fillS _ _ _ _).mem xn = _
          rw [h6 xn hr0 fun y hy hyr hyn => ha1 y hy ⟨hyr.symm, hyn.symm⟩]
          simp only
          rw [rd_set _ ⟨hr0.1, by omega⟩ hr0.1, if_pos rfl]
          rfl
        | succ i =>
          have h4i := h4 i (by simpa using hi)
          simp only [List.getElem_cons_succ]
          rw [h4i]
          congr 1
      · rw [h5 r hr fun y hy => hn y (by simp [hy])]; rfl
      · rw [h6 j hj fun y hy => hn y (by simp [hy])]
        simp only
        rw [rd_set _ ⟨hr0.1, by omega⟩ hj.1, if_neg fun e => hn _ (by simp) rfl e.symm]
theorem start_hold (p : Prg) (hm : Mems p.mems) (l : List Int) (hl : l.length = (placesS p).length) : ∃ s, startS p l = (s, true) ∧ s.mem.length = cellsS p.mems ∧ s.stack = [] ∧ s.pc = 0 ∧ (∀ i : Nat, (h : i < (placesS p).length) → holdP s (placesS p)[i] = maskS p.w (rd l i)) ∧ (∀ r, 0 ≤ r ∧ r < 4 → p.reg r = 0 → s.reg r = 0) := by
  have h0 := (places_len p hm).2.2
  obtain ⟨h1, h2, h3, h4, h5, h6⟩ := fill_hold p.w (cellsS p.mems) (placesS p) l (zeroSta (cellsS p.mems).toNat) (places_ok p hm) (places_apart p hm) hl (by simp [zeroSta]; omega)
  refine ⟨_, if_pos hl, h1, h2, h3, h4, fun r hr e => ?_⟩
  rw [h5 r hr ?_]
  · have : r = 0 ∨ r = 1 ∨ r = 2 ∨ r = 3 := by omega
    rcases this with rfl | rfl | rfl | rfl <;> rfl
  · intro x hx hxr hn
    rw [mem_places p hm] at hx
    rcases hx with ⟨g1, g2, g3, g4, g5⟩ | ⟨g1, g2, g3, g4⟩
    · rw [hn] at g4; exact g4 e
    · rw [hxr] at g1; cases g1
noncomputable def v_make (x : List Int × Unit) : Prg := makeS x.1
def sh_make (p : Prg) : RR := .agg (p.cells.map .d)
theorem e_make (x : List Int × Unit) : sh_make (v_make x) = c_make.ans x := rfl
def v_states (x : Prg × List Int × Int) : Sta × Sta := statesS x.1 x.2.1 x.2.2
theorem e_states (x : Prg × List Int × Int) : rss (v_states x) = c_states.ans x := rfl
def sh_states (x : Sta × Sta) : RR := rss x
theorem e_rPlaces (x : Prg) : rplaces (placesS x) = c_rPlaces.ans x := rfl
def v_rPlaces (x : Prg) : List Place := placesS x
def sh_rPlaces (x : List Place) : RR := rplaces x
end Go.Proofs.YtmmlolampgnamaaDoor.Ax
end

section
/- What a state is told as, in plain words: what is told is read as it was. -/
namespace Go.Proofs.YtmmlolampgnamaaDoor.Ax
open Go.RowKit
set_option linter.unusedVariables false
set_option linter.unusedSimpArgs false
def d48 (v : Int) : Rn := ⟨48 + v⟩
def renderR : List (List Rn) → List Int → List Rn
  | w :: ws, v :: vs => w ++ d48 v :: renderR ws vs
  | _, _ => []
/-- Each begins with a blank. -/
def Bls (ws : List (List Rn)) : Prop := ∀ w ∈ ws, ∃ w', w = ⟨32⟩ :: w'
theorem matchN_app : ∀ (w l : List Rn), matchN w (w ++ l) = w.length
  | [], l => by cases l <;> rfl
  | c :: w, l => by
    show (if c = c then matchN w (w ++ l) + 1 else 0) = _
    rw [if_pos rfl, matchN_app w l]; rfl
theorem matchN_full : ∀ (w l : List Rn), ¬ matchN w l < w.length → l = w ++ l.drop w.length
  | [], l, _ => rfl
  | c :: w, [], h => by simp [matchN] at h
  | c :: w, r :: l, h => by
    unfold matchN at h
    split at h
    · rename_i e
      subst e
      have := matchN_full w l (by simp only [List.length_cons] at h; omega)
      simp only [List.length_cons, List.drop_succ_cons, List.cons_append]
      rw [← this]
    · simp at h
theorem isNm_dig {v : Int} (h : isDig v = true) : isNm v = true := by unfold isNm; rw [h, Bool.or_true]
theorem digF_alone {l : List Rn} (h : aloneL l = true) (m : Nat) (n : Int) : digF l m n = (n, 0) := by
  cases l with
  | nil => cases m <;> rfl
  | cons c l =>
    refine digF_stop (fun hd => ?_) l m n
    have h : (!isNm c.v) = true := h
    rw [isNm_dig hd] at h
    cases h
theorem numL_one {v : Int} (h0 : 0 ≤ v) (h9 : v ≤ 9) {l : List Rn} (hl : aloneL l = true) : numL (d48 v :: l) 5 = some (v, 1) := by
  have hd : isDig (48 + v) = true := isDig_iff.2 (by omega)
  unfold numL
  dsimp only [d48]
  rw [if_pos hd]
  by_cases h : v = 0
  · rw [if_pos (by omega), h]
  · rw [if_neg (by omega)]
    show some (digF ((⟨48 + v⟩ : Rn) :: l) 5 0) = _
    rw [digF, if_pos hd, digF_alone hl]
    dsimp only
    rw [show 10 * 0 + (48 + v - 48) = v by omega]
theorem alone_render {ws : List (List Rn)} (h : Bls ws) (vs : List Int) : aloneL (renderR ws vs) = true := by
  cases ws with
  | nil => rfl
  | cons w ws =>
    cases vs with
    | nil => rfl
    | cons v vs =>
      obtain ⟨w', rfl⟩ := h w (by simp)
      rfl
theorem Bls.tail {w : List Rn} {ws : List (List Rn)} (h : Bls (w :: ws)) : Bls ws := fun x hx => h x (List.mem_cons_of_mem _ hx)
/-- What is told is read. -/
theorem parse_render (size : Int) (hs : size ≤ 10) : ∀ (ws : List (List Rn)) (vs : List Int) (a : Int), ws.length = vs.length → Bls ws.tail → (∀ v ∈ vs, 0 ≤ v ∧ v < size) → parseF size ws (renderR ws vs) a = (vs, 0, true)
  | [], [], _, _, _, _ => rfl
  | [], _ :: _, _, h, _, _ => by simp at h
  | _ :: _, [], _, h, _, _ => by simp at h
  | w :: ws, v :: vs, a, h, hb, hv => by
    have hb : Bls ws := hb
    have ih := parse_render size hs ws vs (a + w.length + 1) (by simpa using h) (fun x hx => hb x (List.mem_of_mem_tail hx)) fun x hx => hv x (List.mem_cons_of_mem _ hx)
    have hv0 := hv v (by simp)
    have al := alone_render hb vs
    unfold parseF renderR
    rw [matchN_app, if_neg (by omega), List.drop_left, numL_one hv0.1 (by omega) al]
    dsimp only
    have ed : (w ++ d48 v :: renderR ws vs).drop (w.length + 1) = renderR ws vs := by
      rw [← List.drop_drop, List.drop_left]; rfl
    rw [ed, if_pos ⟨al, hv0.2⟩, show a + (w.length : Int) + ((1 : Nat) : Int) = a + w.length + 1 from rfl, ih, if_pos rfl]
theorem digF_ge : ∀ (l : List Rn) (m : Nat) (n : Int), 0 ≤ n → n ≤ (digF l m n).1
  | [], m, n, _ => by cases m <;> exact Int.le_refl _
  | c :: l, 0, n, _ => Int.le_refl _
  | c :: l, m + 1, n, h => by
    unfold digF
    split
    · rename_i hd
      have := isDig_iff.1 hd
      have ih := digF_ge l m (10 * n + (c.v - 48)) (by omega)
      dsimp only; omega
    · exact Int.le_refl _
theorem digF_small {l : List Rn} {m : Nat} {n : Int} (h1 : 1 ≤ n) (h : (digF l (m + 1) n).1 < 10) : digF l (m + 1) n = (n, 0) := by
  cases l with
  | nil => rfl
  | cons c l =>
    unfold digF at h ⊢
    split
    · rename_i hd
      rw [if_pos hd] at h
      have := isDig_iff.1 hd
      have h2 := digF_ge l m (10 * n + (c.v - 48)) (by omega)
      dsimp only at h
      omega
    · rfl
theorem numL_small {l : List Rn} {n : Int} {k : Nat} (h : numL l 5 = some (n, k)) (hn : n < 10) : k = 1 ∧ 0 ≤ n ∧ n ≤ 9 ∧ ∃ l', l = d48 n :: l' := by
  cases l with
  | nil => cases h
  | cons c l =>
    unfold numL at h
    dsimp only at h
    split at h
    · rename_i hd
      have hd2 := isDig_iff.1 hd
      split at h
      · rename_i h48
        simp only [Option.some.injEq, Prod.mk.injEq] at h
        obtain ⟨rfl, rfl⟩ := h
        refine ⟨rfl, by decide, by decide, l, ?_⟩
        obtain ⟨v⟩ := c
        have h48 : v = 48 := h48
        subst h48; rfl
      · rename_i h48
        rw [digF, if_pos hd] at h
        simp only [Option.some.injEq, Prod.mk.injEq] at h
        obtain ⟨h1, h2⟩ := h
        have := digF_small (l := l) (m := 3) (n := 10 * 0 + (c.v - 48)) (by omega) (by rw [h1]; exact hn)
        rw [this] at h1 h2
        dsimp only at h1 h2
        refine ⟨by omega, by omega, by omega, l, ?_⟩
        obtain ⟨v⟩ := c
        unfold d48
        dsimp only at h1
        rw [show 48 + n = v by omega]
    · cases h
/-- What is read was told so. -/
theorem parse_inv (size : Int) (hs : size ≤ 10) : ∀ (ws : List (List Rn)) (l : List Rn) (a : Int), (parseF size ws l a).2.2 = true → l = renderR ws (parseF size ws l a).1 ∧ (parseF size ws l a).1.length = ws.length ∧ (parseF size ws l a).2.1 = 0 ∧ ∀ v ∈ (parseF size ws l a).1, 0 ≤ v ∧ v < size
  | [], [], a, _ => ⟨rfl, rfl, rfl, fun v h => by cases h⟩
  | [], _ :: _, a, h => by cases h
  | w :: ws, l, a, h => by
    unfold parseF at h ⊢
    by_cases hm : matchN w l < w.length
    · rw [if_pos hm] at h; cases h
    · rw [if_neg hm] at h ⊢
      have hl := matchN_full w l hm
      cases hn : numL (l.drop w.length) 5 with
      | none => rw [hn] at h; cases h
      | some q =>
        obtain ⟨n, k⟩ := q
        rw [hn] at h
        dsimp only at h ⊢
        by_cases hc : aloneL (l.drop (w.length + k)) = true ∧ n < size
        · rw [if_pos hc] at h ⊢
          by_cases hr : (parseF size ws (l.drop (w.length + k)) (a + w.length + k)).2.2 = true
          · rw [if_pos hr]
            obtain ⟨i1, i2, i3, i4⟩ := parse_inv size hs ws _ _ hr
            obtain ⟨rfl, n0, n9, l', hl'⟩ := numL_small hn (by omega)
            refine ⟨?_, by rw [List.length_cons, i2, List.length_cons], rfl, fun v hv => ?_⟩
            · dsimp only
              rw [renderR, ← i1, ← List.drop_drop, hl']
              rw [hl'] at hl
              exact hl
            · rcases List.mem_cons.1 hv with rfl | hv
              · exact ⟨n0, hc.2⟩
              · exact i4 v hv
          · rw [if_neg hr] at h; cases h
        · rw [if_neg hc] at h; cases h
theorem parse_bad (size : Int) : ∀ (ws : List (List Rn)) (l : List Rn) (a : Int), (parseF size ws l a).2.2 = false → (parseF size ws l a).1 = []
  | [], [], a, h => by cases h
  | [], _ :: _, a, h => rfl
  | w :: ws, l, a, h => by
    unfold parseF at h ⊢
    split
    · rfl
    · rename_i h1
      rw [if_neg h1] at h
      split
      · rfl
      · rename_i n k hn
        rw [hn] at h
        dsimp only at h
        split
        · rename_i h2
          rw [if_pos h2] at h
          split
          · rename_i h3; rw [if_pos h3] at h; cases h
          · rfl
        · rfl
/-! ### Texts and runes -/
def wantsL : List Tx → List (List Rn)
  | [] => []
  | t :: ts => runesS t.v :: ts.map fun t => runesS (chB 32 ++ t.v)
theorem wantsS_L (l : List Tx) : wantsS l = wantsL l := by
  cases l with
  | nil => rfl
  | cons t ts =>
    unfold wantsS wantsL
    rw [List.length_cons, List.range_succ_eq_map, List.map_cons, List.map_map]
    congr 1
    apply List.ext_getElem
    · simp
    · intro i h1 h2
      simp only [List.length_map, List.length_range] at h1
      simp only [List.getElem_map, List.getElem_range, Function.comp]
      unfold wantI
      rw [if_pos (by omega)]
      congr 2
      unfold rd
      rw [show Int.toNat ((i + 1 : Nat) : Int) = i + 1 by omega, List.getD_cons_succ, List.getD_eq_getElem?_getD, List.getElem?_eq_getElem h1]
      rfl
theorem wants_len (l : List Tx) : (wantsS l).length = l.length := by simp [wantsS]
theorem wants_drop (l : List Tx) (i : Int) (h0 : 0 ≤ i) (h : i < l.length) : (wantsS l).drop i.toNat = runesS (wantI l i) :: (wantsS l).drop (i + 1).toNat := by
  have hl := wants_len l
  rw [List.drop_eq_getElem_cons (by omega), show (i + 1).toNat = i.toNat + 1 by omega]
  congr 1
  simp only [wantsS, List.getElem_map, List.getElem_range]
  rw [show ((i.toNat : Nat) : Int) = i by omega]
def ascT (t : Tx) : Prop := isAsc t.v.data.toList = true
theorem isAsc_app (a b : List UInt8) : isAsc (a ++ b) = (isAsc a && isAsc b) := by simp [isAsc, List.all_append]
theorem digS_data {v : Int} (h0 : 0 ≤ v) (h9 : v ≤ 9) : isAsc (digS v).data.toList = true ∧ ascR (digS v).data.toList = [d48 v] := by
  have : v = 0 ∨ v = 1 ∨ v = 2 ∨ v = 3 ∨ v = 4 ∨ v = 5 ∨ v = 6 ∨ v = 7 ∨ v = 8 ∨ v = 9 := by omega
  rcases this with h | h | h | h | h | h | h | h | h | h <;> (subst h; exact ⟨by decide, by decide⟩)
theorem ascR_app (a b : List UInt8) : ascR (a ++ b) = ascR a ++ ascR b := by simp [ascR]
theorem ascT_runes {t : Tx} (h : ascT t) : runesS t.v = ascR t.v.data.toList := by rw [runesS_B, runesB_asc h]
theorem ascT_bl {t : Tx} (h : ascT t) : runesS (chB 32 ++ t.v) = ⟨32⟩ :: runesS t.v := by
  rw [runesS_B, runesS_B, ba_data_app]
  show runesB (32 :: t.v.data.toList) = _
  rw [runesB_ascii 32 _ (by decide)]
  rfl
def piece (t : Tx) (v : Int) : Tx := ⟨t.v ++ digS v⟩
theorem inter_cons (sep x y : List UInt8) (l : List (List UInt8)) : sep.intercalate (x :: y :: l) = x ++ (sep ++ sep.intercalate (y :: l)) := by simp [List.intercalate, List.intersperse]
theorem join_bytes : ∀ (N : List Tx) (V : List Int), N.length = V.length → (∀ t ∈ N, ascT t) → (∀ v ∈ V, 0 ≤ v ∧ v ≤ 9) →
    isAsc (([32] : List UInt8).intercalate ((List.zipWith piece N V).map fun t => t.v.data.toList)) = true ∧ ascR (([32] : List UInt8).intercalate ((List.zipWith piece N V).map fun t => t.v.data.toList)) = renderR (wantsL N) V
  | [], [], _, _, _ => ⟨rfl, rfl⟩
  | [], _ :: _, h, _, _ => by simp at h
  | _ :: _, [], h, _, _ => by simp at h
  | [t], [v], _, ht, hv => by
    have h1 := ht t (by simp)
    obtain ⟨h2, h3⟩ := digS_data (hv v (by simp)).1 (hv v (by simp)).2
    have e : (([32] : List UInt8).intercalate ((List.zipWith piece [t] [v]).map fun t => t.v.data.toList)) = t.v.data.toList ++ (digS v).data.toList := by
      simp [List.intercalate, piece, ba_data_app]
    rw [e, isAsc_app, h2, ascR_app, h3]
    refine ⟨by rw [show isAsc t.v.data.toList = true from h1]; rfl, ?_⟩
    simp only [wantsL, renderR, List.map_nil]
    rw [ascT_runes h1]
  | [_], _ :: _ :: _, h, _, _ => by simp at h
  | _ :: _ :: _, [_], h, _, _ => by simp at h
  | t :: t' :: N, v :: v' :: V, h, ht, hv => by
    obtain ⟨i1, i2⟩ := join_bytes (t' :: N) (v' :: V) (by simpa using h) (fun x hx => ht x (List.mem_cons_of_mem _ hx)) fun x hx => hv x (List.mem_cons_of_mem _ hx)
    have h1 := ht t (by simp)
    obtain ⟨h2, h3⟩ := digS_data (hv v (by simp)).1 (hv v (by simp)).2
    have h1' := ht t' (by simp)
    simp only [List.zipWith_cons_cons, List.map_cons] at i1 i2 ⊢
    rw [inter_cons, isAsc_app, isAsc_app, i1, ascR_app, ascR_app, i2]
    have e1 : (piece t v).v.data.toList = t.v.data.toList ++ (digS v).data.toList := ba_data_app _ _
    rw [e1, isAsc_app, h2, ascR_app, h3, show isAsc t.v.data.toList = true from h1]
    refine ⟨rfl, ?_⟩
    simp only [wantsL, renderR, List.map_cons]
    rw [ascT_runes h1, ascT_bl h1', List.append_assoc]
    rfl
theorem names_asc {p : Prg} (h : MemsF p.mems) : ∀ t ∈ namesS p, ascT t := by
  intro t ht
  unfold namesS regNames at ht
  have hr : ∀ n r : Int, (r = 0 ∨ r = 1 ∨ r = 2 ∨ r = 3) → t ∈ regName n r → ascT t := fun n r hr hm => by
    unfold regName at hm
    split at hm
    · cases hm
    · simp only [List.mem_singleton] at hm
      subst hm
      rcases hr with rfl | rfl | rfl | rfl
      · show isAsc (nameR 0).data.toList = true; decide
      · show isAsc (nameR 1).data.toList = true; decide
      · show isAsc (nameR 2).data.toList = true; decide
      · show isAsc (nameR 3).data.toList = true; decide
  simp only [List.mem_append] at ht
  rcases ht with (((ht | ht) | ht) | ht) | ht
  · exact hr _ _ (by simp) ht
  · exact hr _ _ (by simp) ht
  · exact hr _ _ (by simp) ht
  · exact hr _ _ (by simp) ht
  · have : ∀ t ∈ memNames p.mems, isAsc t.v.data.toList = true := by
      rcases h with h | h | h | h | h <;> (rw [h]; decide)
    exact this t ht
theorem wants_bl (l : List Tx) (h : ∀ t ∈ l, ascT t) : Bls (wantsL l).tail := by
  cases l with
  | nil => intro w hw; cases hw
  | cons t ts =>
    intro w hw
    simp only [wantsL, List.tail_cons, List.mem_map] at hw
    obtain ⟨x, hx, rfl⟩ := hw
    exact ⟨_, ascT_bl (h x (List.mem_cons_of_mem _ hx))⟩
def valsS (p : Prg) (s : Sta) : List Int := (placesS p).map (heldS s)
theorem toldL_piece (p : Prg) (s : Sta) : toldL p s = List.zipWith piece (namesS p) (valsS p s) := by
  unfold toldL valsS
  rw [List.zipWith_map_right]
  rfl
/-- A state's text, in runes. -/
theorem show_runes {p : Prg} {s : Sta} (h : MemsF p.mems) (hv : ∀ v ∈ valsS p s, 0 ≤ v ∧ v ≤ 9) : isAsc (showS p s).data.toList = true ∧ ascR (showS p s).data.toList = renderR (wantsS (namesS p)) (valsS p s) ∧ runesS (showS p s) = renderR (wantsS (namesS p)) (valsS p s) := by
  obtain ⟨h1, h2⟩ := join_bytes (namesS p) (valsS p s) (by rw [names_len h, valsS, List.length_map]) (names_asc h) hv
  rw [wantsS_L]
  unfold showS joinT
  rw [toldL_piece]
  refine ⟨by simpa using h1, by simpa using h2, ?_⟩
  rw [runesS_B, ← h2]
  simpa using runesB_asc h1
end Go.Proofs.YtmmlolampgnamaaDoor.Ax
end

section
/- What a state is told as: show's names, held, State. -/
namespace Go.Proofs.YtmmlolampgnamaaDoor.Ax
open Go.RowKit
set_option linter.unusedVariables false
set_option linter.unusedSimpArgs false
noncomputable def v_aCells : Prg → Int := fun x => cellsS x.mems
noncomputable def sh_aCells : Int → RR := fun i => ri i
theorem e_aCells (x : Prg) : sh_aCells (v_aCells x) = c_aCells.ans x := rfl
noncomputable def v_aPlaces : Prg → List Place := fun x => placesS x
noncomputable def sh_aPlaces : List Place → RR := fun l => rplaces l
theorem e_aPlaces (x : Prg) : sh_aPlaces (v_aPlaces x) = c_aPlaces.ans x := rfl
def rTx (l : List Tx) : RR := .c (.new 1 (rowsOn l))
def c_names : FT Prg := ⟨20, fun p => [ap p], rdP1, fun p => MemsF p.mems, fun p => rTx (namesS p), false, fun p => by simp [ap, rdP1]⟩
noncomputable def a_names : FnA := (fnA Tryd.prog Tryd.f20 1 [(3, [1, 3, 10, 11, 1000003000000900001001]), (9, [3, 26, 27, 28, 1000003000000900001001]), (12, [3, 7, 26, 27, 28, 35, 36, 1000003000000900001001])]).getD ⟨0, .skip, [], []⟩
noncomputable def s_names : Sp := spT [c_itoa.gfe v_itoa sh_itoa e_itoa, c_aCells.gfe v_aCells sh_aCells e_aCells]
theorem s_names_sound : s_names.sound Tryd.prog := spT_sound fun e he => by
  simp only [List.mem_cons, List.not_mem_nil, or_false] at he
  rcases he with rfl | rfl
  · exact FT.gfe_good c_itoa_good
  · exact FT.gfe_good c_aCells_good
def F_nm0 (p : Prg) (i : Int) (R : List (List D)) (n : Nat) : St := ⟨mkS 52 [(1, vp 64), (3, vo 900001 n), (10, .agg [.d (.int .i64 p.r0), .d (.int .i64 p.r1), .d (.int .i64 p.r2), .d (.int .i64 p.r3)]), (11, vi i)], [(64, bx p.cells), (900001, ba 1 R)]⟩
def F_nm1 (ms : List PMem) (k : Int) (R : List (List D)) (n : Nat) : St := ⟨mkS 52 [(3, vo 900001 n), (26, vr (rowsOn ms)), (27, vi (rowsOn ms).length), (28, vi k)], [(900001, ba 1 R)]⟩
def F_nm2 (ms : List PMem) (k : Int) (nm : ByteArray) (sec : Bool) (mn b j : Int) (R : List (List D)) (n : Nat) : St := ⟨mkS 52 [(3, vo 900001 n), (7, vp 448), (26, vr (rowsOn ms)), (27, vi (rowsOn ms).length), (28, vi k), (35, vi b), (36, vi j)], [(448, bx [.str nm, .bool sec, .int .i64 mn]), (900001, ba 1 R)]⟩
def nmFrom (p : Prg) (i : Int) : List Tx :=
  if i ≤ 0 then regNames p else if i = 1 then regName p.r1 1 ++ (regName p.r2 2 ++ regName p.r3 3) else if i = 2 then regName p.r2 2 ++ regName p.r3 3 else if i = 3 then regName p.r3 3 else []
theorem nmFrom0 (p : Prg) : nmFrom p 0 = regName p.r0 0 ++ nmFrom p 1 := by simp [nmFrom, regNames, List.append_assoc]
theorem nmFrom1 (p : Prg) : nmFrom p 1 = regName p.r1 1 ++ nmFrom p 2 := by simp [nmFrom]
theorem nmFrom2 (p : Prg) : nmFrom p 2 = regName p.r2 2 ++ nmFrom p 3 := by simp [nmFrom]
theorem nmFrom3 (p : Prg) : nmFrom p 3 = regName p.r3 3 ++ nmFrom p 4 := by simp [nmFrom]
theorem nmFrom4 (p : Prg) : nmFrom p 4 = [] := by simp [nmFrom]
theorem regName_ne {n : Int} (h : ¬ n = 0) (r : Int) : regName n r = [⟨nameR r⟩] := if_neg h
theorem regName_eq {n : Int} (h : n = 0) (r : Int) : regName n r = [] := if_pos h
structure NmOk (ms : List PMem) : Prop where
  len : ms.length ≤ 10
  n : ∀ m ∈ ms, m.name.size ≤ 1000 ∧ 0 ≤ m.n ∧ m.n ≤ 10
theorem MemsF.ok {ms : List PMem} (h : MemsF ms) : NmOk ms := by
  rcases h with rfl | rfl | rfl | rfl | rfl <;> exact ⟨by decide, by decide⟩
theorem ba_size (s t : ByteArray) : (s ++ t).size = s.size + t.size := ByteArray.size_append
set_option maxRecDepth 100000 in
theorem t_names (p : Prg) : a_names.start s_names 400 [ap p] =
(FnA.at_ a_names 0 (F_nm0 p (0 : Int) [] (0 : Nat))) := by kernel_rfl
set_option maxRecDepth 100000 in
theorem t_nm0 (p : Prg) (i : Int) (R : List (List D)) (n : Nat) : a_names.round s_names 400 0 (F_nm0 p i R n) =
(VC.br (decide (i < (4 : Int)))
 (VC.br (decide (i = (0 : Int)))
  (VC.br (p.r0 != (0 : Int))
   (VC.need (PreOk c_itoa i [A.c (D.int IntKind.i64 i)])
   (VC.all (v_itoa i) fun (y4 : ByteArray) =>
   (VC.need ((1 : Nat) + ByteArray.size y4 ≤ (9223372036854775807 : Nat))
   (VC.need (ByteArray.size ({ data := #[(114 : UInt8)] } ++ y4) + (1 : Nat) ≤ (9223372036854775807 : Nat))
   (VC.need ((List.all [[D.str ({ data := #[(114 : UInt8)] } ++ y4 ++ { data := #[(61 : UInt8)] })]] fun r ↦ List.length r == (1 : Nat)) = true ∧ (List.all R fun r ↦ List.length r == (1 : Nat)) = true ∧ (List.length R + List.length [[D.str ({ data := #[(114 : UInt8)] } ++ y4 ++ { data := #[(61 : UInt8)] })]] + (100 : Nat)) * (17 : Nat) ≤ (70368744177664 : Nat))
   (FnA.at_ a_names 0 (F_nm0 p (IntKind.wrap IntKind.i64 (i + (1 : Int))) (R ++ [[D.str ({ data := #[(114 : UInt8)] } ++ y4 ++ { data := #[(61 : UInt8)] })]]) (List.length R + List.length [[D.str ({ data := #[(114 : UInt8)] } ++ y4 ++ { data := #[(61 : UInt8)] })]]))))))))
   (FnA.at_ a_names 0 (F_nm0 p (IntKind.wrap IntKind.i64 (i + (1 : Int))) R n)))
  (VC.br (decide (i = (1 : Int)))
   (VC.br (p.r1 != (0 : Int))
    (VC.need (PreOk c_itoa i [A.c (D.int IntKind.i64 i)])
    (VC.all (v_itoa i) fun (y4 : ByteArray) =>
    (VC.need ((1 : Nat) + ByteArray.size y4 ≤ (9223372036854775807 : Nat))
    (VC.need (ByteArray.size ({ data := #[(114 : UInt8)] } ++ y4) + (1 : Nat) ≤ (9223372036854775807 : Nat))
    (VC.need ((List.all [[D.str ({ data := #[(114 : UInt8)] } ++ y4 ++ { data := #[(61 : UInt8)] })]] fun r ↦ List.length r == (1 : Nat)) = true ∧ (List.all R fun r ↦ List.length r == (1 : Nat)) = true ∧ (List.length R + List.length [[D.str ({ data := #[(114 : UInt8)] } ++ y4 ++ { data := #[(61 : UInt8)] })]] + (100 : Nat)) * (17 : Nat) ≤ (70368744177664 : Nat))
    (FnA.at_ a_names 0 (F_nm0 p (IntKind.wrap IntKind.i64 (i + (1 : Int))) (R ++ [[D.str ({ data := #[(114 : UInt8)] } ++ y4 ++ { data := #[(61 : UInt8)] })]]) (List.length R + List.length [[D.str ({ data := #[(114 : UInt8)] } ++ y4 ++ { data := #[(61 : UInt8)] })]]))))))))
    (FnA.at_ a_names 0 (F_nm0 p (IntKind.wrap IntKind.i64 (i + (1 : Int))) R n)))
   (VC.br (decide (i = (2 : Int)))
    (VC.br (p.r2 != (0 : Int))
     (VC.need (PreOk c_itoa i [A.c (D.int IntKind.i64 i)])
     (VC.all (v_itoa i) fun (y4 : ByteArray) =>
     (VC.need ((1 : Nat) + ByteArray.size y4 ≤ (9223372036854775807 : Nat))
     (VC.need (ByteArray.size ({ data := #[(114 : UInt8)] } ++ y4) + (1 : Nat) ≤ (9223372036854775807 : Nat))
     (VC.need ((List.all [[D.str ({ data := #[(114 : UInt8)] } ++ y4 ++ { data := #[(61 : UInt8)] })]] fun r ↦ List.length r == (1 : Nat)) = true ∧ (List.all R fun r ↦ List.length r == (1 : Nat)) = true ∧ (List.length R + List.length [[D.str ({ data := #[(114 : UInt8)] } ++ y4 ++ { data := #[(61 : UInt8)] })]] + (100 : Nat)) * (17 : Nat) ≤ (70368744177664 : Nat))
     (FnA.at_ a_names 0 (F_nm0 p (IntKind.wrap IntKind.i64 (i + (1 : Int))) (R ++ [[D.str ({ data := #[(114 : UInt8)] } ++ y4 ++ { data := #[(61 : UInt8)] })]]) (List.length R + List.length [[D.str ({ data := #[(114 : UInt8)] } ++ y4 ++ { data := #[(61 : UInt8)] })]]))))))))
     (FnA.at_ a_names 0 (F_nm0 p (IntKind.wrap IntKind.i64 (i + (1 : Int))) R n)))
    (VC.br (decide (i = (3 : Int)))
     (VC.br (p.r3 != (0 : Int))
      (VC.need (PreOk c_itoa i [A.c (D.int IntKind.i64 i)])
      (VC.all (v_itoa i) fun (y4 : ByteArray) =>
      (VC.need ((1 : Nat) + ByteArray.size y4 ≤ (9223372036854775807 : Nat))
      (VC.need (ByteArray.size ({ data := #[(114 : UInt8)] } ++ y4) + (1 : Nat) ≤ (9223372036854775807 : Nat))
      (VC.need ((List.all [[D.str ({ data := #[(114 : UInt8)] } ++ y4 ++ { data := #[(61 : UInt8)] })]] fun r ↦ List.length r == (1 : Nat)) = true ∧ (List.all R fun r ↦ List.length r == (1 : Nat)) = true ∧ (List.length R + List.length [[D.str ({ data := #[(114 : UInt8)] } ++ y4 ++ { data := #[(61 : UInt8)] })]] + (100 : Nat)) * (17 : Nat) ≤ (70368744177664 : Nat))
      (FnA.at_ a_names 0 (F_nm0 p (IntKind.wrap IntKind.i64 (i + (1 : Int))) (R ++ [[D.str ({ data := #[(114 : UInt8)] } ++ y4 ++ { data := #[(61 : UInt8)] })]]) (List.length R + List.length [[D.str ({ data := #[(114 : UInt8)] } ++ y4 ++ { data := #[(61 : UInt8)] })]]))))))))
      (FnA.at_ a_names 0 (F_nm0 p (IntKind.wrap IntKind.i64 (i + (1 : Int))) R n)))
     VC.ff))))
 (FnA.at_ a_names 1 (F_nm1 p.mems (0 : Int) R n))) := by kernel_rfl
set_option maxRecDepth 100000 in
theorem t_nm1 (ms : List PMem) (k : Int) (R : List (List D)) (n : Nat) : a_names.round s_names 400 1 (F_nm1 ms k R n) =
(VC.br (decide (k < (↑(List.length (rowsOn ms)) : Int)))
 (VC.need ((0 : Int) ≤ k ∧ k < (↑(List.length (rowsOn ms)) : Int) ∧ List.length (rowAt (rowsOn ms) (Int.toNat k)) = (3 : Nat))
 (VC.need (okSh [Kd.str, Kd.bool, Kd.int IntKind.i64] (rowAt (rowsOn ms) (Int.toNat k)))
 (VC.need (PreOk c_aCells { w := (0 : Int), window := (0 : Int), fuel := (0 : Int), r0 := (0 : Int), r1 := (0 : Int), r2 := (0 : Int), r3 := (0 : Int), mems := [{ name := asStr (List.getD (rowAt (rowsOn ms) (Int.toNat k)) (0 : Nat) D.nilp), secret := asBool (List.getD (rowAt (rowsOn ms) (Int.toNat k)) (1 : Nat) D.nilp), n := asInt (List.getD (rowAt (rowsOn ms) (Int.toNat k)) (2 : Nat) D.nilp) }], labels := [], ins := [] } [A.agg [D.int IntKind.i64 (0 : Int), D.int IntKind.i64 (0 : Int), D.int IntKind.i64 (0 : Int), D.int IntKind.i64 (0 : Int), D.int IntKind.i64 (0 : Int), D.int IntKind.i64 (0 : Int), D.int IntKind.i64 (0 : Int), D.sl [[D.str (asStr (List.getD (rowAt (rowsOn ms) (Int.toNat k)) (0 : Nat) D.nilp)), D.bool (asBool (List.getD (rowAt (rowsOn ms) (Int.toNat k)) (1 : Nat) D.nilp)), D.int IntKind.i64 (asInt (List.getD (rowAt (rowsOn ms) (Int.toNat k)) (2 : Nat) D.nilp))]], D.sl [], D.sl []]])
 (VC.all (v_aCells { w := (0 : Int), window := (0 : Int), fuel := (0 : Int), r0 := (0 : Int), r1 := (0 : Int), r2 := (0 : Int), r3 := (0 : Int), mems := [{ name := asStr (List.getD (rowAt (rowsOn ms) (Int.toNat k)) (0 : Nat) D.nilp), secret := asBool (List.getD (rowAt (rowsOn ms) (Int.toNat k)) (1 : Nat) D.nilp), n := asInt (List.getD (rowAt (rowsOn ms) (Int.toNat k)) (2 : Nat) D.nilp) }], labels := [], ins := [] }) fun (y4 : Int) =>
 (FnA.at_ a_names 2 (F_nm2 ms k (asStr (List.getD (rowAt (rowsOn ms) (Int.toNat k)) (0 : Nat) D.nilp)) (asBool (List.getD (rowAt (rowsOn ms) (Int.toNat k)) (1 : Nat) D.nilp)) (asInt (List.getD (rowAt (rowsOn ms) (Int.toNat k)) (2 : Nat) D.nilp)) y4 (0 : Int) R n))))))
 (VC.ret (some (RR.c (Rc.new (1 : Nat) R))))) := by kernel_rfl
set_option maxRecDepth 100000 in
theorem t_nm2 (ms : List PMem) (k : Int) (nm : ByteArray) (sec : Bool) (mn b j : Int) (R : List (List D)) (n : Nat) : a_names.round s_names 400 2 (F_nm2 ms k nm sec mn b j R n) =
(VC.br (decide (j < b))
 (VC.need (ByteArray.size nm + (1 : Nat) ≤ (9223372036854775807 : Nat))
 (VC.need (PreOk c_itoa j [A.c (D.int IntKind.i64 j)])
 (VC.all (v_itoa j) fun (y9 : ByteArray) =>
 (VC.need (ByteArray.size (nm ++ { data := #[(46 : UInt8)] }) + ByteArray.size y9 ≤ (9223372036854775807 : Nat))
 (VC.need (ByteArray.size (nm ++ { data := #[(46 : UInt8)] } ++ y9) + (1 : Nat) ≤ (9223372036854775807 : Nat))
 (VC.need ((List.all [[D.str (nm ++ { data := #[(46 : UInt8)] } ++ y9 ++ { data := #[(61 : UInt8)] })]] fun r ↦ List.length r == (1 : Nat)) = true ∧ (List.all R fun r ↦ List.length r == (1 : Nat)) = true ∧ (List.length R + List.length [[D.str (nm ++ { data := #[(46 : UInt8)] } ++ y9 ++ { data := #[(61 : UInt8)] })]] + (100 : Nat)) * (17 : Nat) ≤ (70368744177664 : Nat))
 (FnA.at_ a_names 2 (F_nm2 ms k nm sec mn b (IntKind.wrap IntKind.i64 (j + (1 : Int))) (R ++ [[D.str (nm ++ { data := #[(46 : UInt8)] } ++ y9 ++ { data := #[(61 : UInt8)] })]]) (List.length R + List.length [[D.str (nm ++ { data := #[(46 : UInt8)] } ++ y9 ++ { data := #[(61 : UInt8)] })]])))))))))
 (FnA.at_ a_names 1 (F_nm1 ms (IntKind.wrap IntKind.i64 (k + (1 : Int))) R n))) := by kernel_rfl
theorem l_nm2 (ms : List PMem) (k : Int) (nm : ByteArray) (sec : Bool) (mn b : Int) (Q : RR → Prop) (tot : List Tx) (hk : 0 ≤ k ∧ k < ms.length ∧ ms.length ≤ 10) (hb : b ≤ 10) (hnm : nm.size ≤ 1000)
    (hnext : ∀ R n l, OnL R n l → l ++ memNames (ms.drop (k + 1).toNat) = tot → l.length ≤ 16 * (k + 2) → (a_names.at_ 1 (F_nm1 ms (k + 1) R n)).holds s_names.cx a_names.rs Q) :
    ∀ j R n l, OnL R n l → l ++ (cellNames nm j b ++ memNames (ms.drop (k + 1).toNat)) = tot → 0 ≤ j → j ≤ b → l.length ≤ 16 * (k + 1) + j →
      (a_names.at_ 2 (F_nm2 ms k nm sec mn b j R n)).holds s_names.cx a_names.rs Q := by
  have key := loop_rule (a := a_names) (j := 2) (m := 400) (R := Q) s_names_sound (fun (i : Int × List (List D) × Nat × List Tx) => F_nm2 ms k nm sec mn b i.1 i.2.1 i.2.2.1)
    (fun i => OnL i.2.1 i.2.2.1 i.2.2.2 ∧ i.2.2.2 ++ (cellNames nm i.1 b ++ memNames (ms.drop (k + 1).toNat)) = tot ∧ 0 ≤ i.1 ∧ i.1 ≤ b ∧ i.2.2.2.length ≤ 16 * (k + 1) + i.1) (fun i => (b - i.1).toNat) ?_
  · exact fun j R n l h1 h2 h3 h4 h5 => key (j, R, n, l) ⟨h1, h2, h3, h4, h5⟩
  rintro ⟨j, R, n, l⟩ ⟨h1, h2, h3, h4, h5⟩ ih
  replace ih := fun v0 v1 v2 v3 => ih (v0, v1, v2, v3)
  dsimp only at h1 h2 h3 h4 h5 ih
  show VC.holds _ _ _ (a_names.round s_names 400 2 (F_nm2 ms k nm sec mn b j R n))
  rw [t_nm2, wrap_small (k + 1) (by omega) (by omega), wrap_small (j + 1) (by omega) (by omega)]
  have hdj := digS_size j
  refine br_dec (fun hj => ⟨by omega, PreOk.mk ⟨h3, by show j ≤ 9; omega⟩ rfl, all_holds fun y hy => ?_⟩) (fun hj => ?_)
  · replace hy : y = digS j := hy
    subst hy
    refine ⟨?_, ?_, app_ok h1 rfl rfl (by simp only [List.length_cons, List.length_nil]; omega), ih _ _ _ (l ++ [(⟨nameC nm j⟩ : Tx)]) ⟨OnL.snoc h1 (⟨nameC nm j⟩ : Tx), ?_, by omega, by omega, by rw [List.length_append, List.length_singleton]; omega⟩ (by omega)⟩
    · rw [ba_size, hdj]; show nm.size + 1 + 1 ≤ _; omega
    · rw [ba_size, ba_size, hdj]; show nm.size + 1 + 1 + 1 ≤ _; omega
    · rw [cellNames_step nm hj] at h2
      rw [List.append_assoc]
      exact h2
  · have e : j = b := by omega
    subst e
    rw [cellNames_end nm (Int.le_refl _), List.nil_append] at h2
    exact hnext _ _ l h1 h2 (by omega)
theorem l_nm1 (ms : List PMem) (hm : NmOk ms) (tot : List Tx) : ∀ i_ : Int × List (List D) × Nat × List Tx, (fun (i : Int × List (List D) × Nat × List Tx) => OnL i.2.1 i.2.2.1 i.2.2.2 ∧ i.2.2.2 ++ memNames (ms.drop i.1.toNat) = tot ∧ 0 ≤ i.1 ∧ i.1 ≤ ms.length ∧ i.2.2.2.length ≤ 16 * (i.1 + 1)) i_ → (a_names.at_ 1 ((fun (i : Int × List (List D) × Nat × List Tx) => F_nm1 ms i.1 i.2.1 i.2.2.1) i_)).holds s_names.cx a_names.rs (fun r => r.le (rTx tot)) := by
  refine loop_rule (a := a_names) (j := 1) (m := 400) s_names_sound (fun (i : Int × List (List D) × Nat × List Tx) => F_nm1 ms i.1 i.2.1 i.2.2.1) (fun (i : Int × List (List D) × Nat × List Tx) => OnL i.2.1 i.2.2.1 i.2.2.2 ∧ i.2.2.2 ++ memNames (ms.drop i.1.toNat) = tot ∧ 0 ≤ i.1 ∧ i.1 ≤ ms.length ∧ i.2.2.2.length ≤ 16 * (i.1 + 1)) (fun (i : Int × List (List D) × Nat × List Tx) => ((ms.length : Int) - i.1).toNat) ?_
  rintro ⟨k, R, n, l⟩ h_inv ih
  try dsimp only at h_inv
  replace ih := fun (v0 : Int) (v1 : List (List D)) (v2 : Nat) (v3 : List Tx) => ih (v0, v1, v2, v3)
  try dsimp only at ih
  show VC.holds _ _ _ (a_names.round s_names 400 1 (F_nm1 ms k R n))
  rw [t_nm1]
  try simp only [asRows_sl, asInt_int, asBool_bool, asStr_str, listOf_rowsOn, List.drop_zero, Prg.eta, Sta.eta, rowsOn_length, getD_drop, Nat.reduceAdd, rd_int, rd_PMem_name, rd_PMem_secret, rd_PMem_n, rd_PLabel_name, rd_PLabel_at_, rd_Ins_kind, rd_Ins_op, rd_Ins_d, rd_Ins_aR, rd_Ins_aN, rd_Ins_bR, rd_Ins_bN, rd_Ins_name, rd_Ins_target, rd_Ent_pc, rd_Ent_val, rd_Ent_addr, rd_Ent_fro, rd_Ent_next, rd_Ent_done, rd_Ent_known, rd_Ent_fault, rd_Place_reg, rd_Place_n, rd_Place_secret, rd_Obs_kind, rd_Obs_at_, rd_Dir_kind, rd_Dir_n, rd_Rn_v, rd_Tok_kind, rd_Tok_text, rd_Tok_n, rd_Tok_at_]
  obtain ⟨h1, h2, h3, h4, h5⟩ := h_inv
  have hlen := hm.len
  refine br_dec (fun hk => ?_) (fun hk => ret_le ?_)
  · have h8 := hm.n _ (rd_mem ms k h3 hk)
    have hcs : cellsS [rd ms k] = (rd ms k).n := by simp [cellsS]
    refine ⟨idx_ok _ _ _ rfl h3 hk, okSh_ok _ ms k (fun _ => rfl) h3 hk, PreOk.mk ⟨by show [rd ms k].length ≤ 100; simp, fun m hmm => ?_⟩ rfl, all_holds fun y hy => ?_⟩
    · replace hmm : m ∈ [rd ms k] := hmm
      simp only [List.mem_singleton] at hmm
      subst hmm
      omega
    · replace hy : y = cellsS [rd ms k] := hy
      rw [hcs] at hy
      subst hy
      refine l_nm2 ms k _ _ _ (rd ms k).n _ tot ⟨h3, hk, hlen⟩ h8.2.2 h8.1 (fun R' n' l' g1 g2 g3 => ih _ _ _ l' ⟨g1, g2, by omega, by omega, by omega⟩ (by omega)) 0 R n l h1 ?_ (by omega) (by omega) (by omega)
      rw [← memNames_drop ms k h3 hk]
      exact h2
  · have hk : k.toNat = ms.length := by omega
    rw [hk, List.drop_length] at h2
    simp only [memNames, List.append_nil] at h2
    subst h2
    rw [h1.1]
    exact RR.le_refl _
theorem l_nm0 (p : Prg) (hm : NmOk p.mems) : ∀ i_ : Int × List (List D) × Nat, (fun (i : Int × List (List D) × Nat) => 0 ≤ i.1 ∧ i.1 ≤ 4 ∧ ∃ l, OnL i.2.1 i.2.2 l ∧ l ++ nmFrom p i.1 = regNames p ∧ l.length ≤ i.1) i_ → (a_names.at_ 0 ((fun (i : Int × List (List D) × Nat) => F_nm0 p i.1 i.2.1 i.2.2) i_)).holds s_names.cx a_names.rs (fun r => r.le (rTx (namesS p))) := by
  refine loop_rule (a := a_names) (j := 0) (m := 400) s_names_sound (fun (i : Int × List (List D) × Nat) => F_nm0 p i.1 i.2.1 i.2.2) (fun (i : Int × List (List D) × Nat) => 0 ≤ i.1 ∧ i.1 ≤ 4 ∧ ∃ l, OnL i.2.1 i.2.2 l ∧ l ++ nmFrom p i.1 = regNames p ∧ l.length ≤ i.1) (fun (i : Int × List (List D) × Nat) => (4 - i.1).toNat) ?_
  rintro ⟨i, R, n⟩ h_inv ih
  try dsimp only at h_inv
  replace ih := fun (v0 : Int) (v1 : List (List D)) (v2 : Nat) => ih (v0, v1, v2)
  try dsimp only at ih
  show VC.holds _ _ _ (a_names.round s_names 400 0 (F_nm0 p i R n))
  rw [t_nm0]
  try simp only [asRows_sl, asInt_int, asBool_bool, asStr_str, listOf_rowsOn, List.drop_zero, Prg.eta, Sta.eta, rowsOn_length, getD_drop, Nat.reduceAdd, rd_int, rd_PMem_name, rd_PMem_secret, rd_PMem_n, rd_PLabel_name, rd_PLabel_at_, rd_Ins_kind, rd_Ins_op, rd_Ins_d, rd_Ins_aR, rd_Ins_aN, rd_Ins_bR, rd_Ins_bN, rd_Ins_name, rd_Ins_target, rd_Ent_pc, rd_Ent_val, rd_Ent_addr, rd_Ent_fro, rd_Ent_next, rd_Ent_done, rd_Ent_known, rd_Ent_fault, rd_Place_reg, rd_Place_n, rd_Place_secret, rd_Obs_kind, rd_Obs_at_, rd_Dir_kind, rd_Dir_n, rd_Rn_v, rd_Tok_kind, rd_Tok_text, rd_Tok_n, rd_Tok_at_]
  obtain ⟨h3, h4, l, h1, h2, h5⟩ := h_inv
  rw [wrap_small (i + 1) (by omega) (by omega)]
  have take : ∀ r : Int, 0 ≤ r → r ≤ 3 → i = r → l ++ (⟨nameR r⟩ :: nmFrom p (r + 1)) = regNames p →
      (VC.need (PreOk c_itoa i [A.c (D.int .i64 i)]) (VC.all (v_itoa i) fun (y4 : ByteArray) => VC.need (1 + ByteArray.size y4 ≤ 9223372036854775807) (VC.need (ByteArray.size ({ data := #[(114 : UInt8)] } ++ y4) + 1 ≤ 9223372036854775807)
        (VC.need ((List.all [[D.str ({ data := #[(114 : UInt8)] } ++ y4 ++ { data := #[(61 : UInt8)] })]] fun r ↦ List.length r == (1 : Nat)) = true ∧ (List.all R fun r ↦ List.length r == (1 : Nat)) = true ∧ (List.length R + List.length [[D.str ({ data := #[(114 : UInt8)] } ++ y4 ++ { data := #[(61 : UInt8)] })]] + 100) * 17 ≤ 70368744177664)
        (a_names.at_ 0 (F_nm0 p (i + 1) (R ++ [[D.str ({ data := #[(114 : UInt8)] } ++ y4 ++ { data := #[(61 : UInt8)] })]]) (List.length R + List.length [[D.str ({ data := #[(114 : UInt8)] } ++ y4 ++ { data := #[(61 : UInt8)] })]]))))))).holds s_names.cx a_names.rs fun r => r.le (rTx (namesS p)) := fun r r0 r1 er e => by
    subst er
    have hdj := digS_size i
    refine ⟨PreOk.mk ⟨r0, by show i ≤ 9; omega⟩ rfl, all_holds fun y hy => ?_⟩
    replace hy : y = digS i := hy
    subst hy
    refine ⟨by omega, ?_, app_ok h1 rfl rfl (by simp only [List.length_cons, List.length_nil]; omega), ih _ _ _ ⟨by omega, by omega, l ++ [(⟨nameR i⟩ : Tx)], OnL.snoc h1 (⟨nameR i⟩ : Tx), ?_, by rw [List.length_append, List.length_singleton]; omega⟩ (by omega)⟩
    · rw [ba_size, hdj]; show 1 + 1 + 1 ≤ _; omega
    · rw [List.append_assoc]; exact e
  have skip : ∀ r : Int, 0 ≤ r → r ≤ 3 → i = r → l ++ nmFrom p (r + 1) = regNames p → (a_names.at_ 0 (F_nm0 p (i + 1) R n)).holds s_names.cx a_names.rs fun r => r.le (rTx (namesS p)) := fun r r0 r1 er e => by
    subst er
    exact ih _ _ _ ⟨by omega, by omega, l, h1, e, by omega⟩ (by omega)
  refine br_dec (fun hi4 => ?_) (fun hi4 => ?_)
  · refine br_dec (fun e0 => ?_) (fun e0 => br_dec (fun e1 => ?_) (fun e1 => br_dec (fun e2 => ?_) (fun e2 => br_dec (fun e3 => ?_) (fun e3 => by omega))))
    · rw [e0, nmFrom0] at h2
      exact br_bne (fun hz => take 0 (by decide) (by decide) e0 (by rw [regName_ne hz] at h2; exact h2)) (fun hz => skip 0 (by decide) (by decide) e0 (by rw [regName_eq hz] at h2; exact h2))
    · rw [e1, nmFrom1] at h2
      exact br_bne (fun hz => take 1 (by decide) (by decide) e1 (by rw [regName_ne hz] at h2; exact h2)) (fun hz => skip 1 (by decide) (by decide) e1 (by rw [regName_eq hz] at h2; exact h2))
    · rw [e2, nmFrom2] at h2
      exact br_bne (fun hz => take 2 (by decide) (by decide) e2 (by rw [regName_ne hz] at h2; exact h2)) (fun hz => skip 2 (by decide) (by decide) e2 (by rw [regName_eq hz] at h2; exact h2))
    · rw [e3, nmFrom3] at h2
      exact br_bne (fun hz => take 3 (by decide) (by decide) e3 (by rw [regName_ne hz] at h2; exact h2)) (fun hz => skip 3 (by decide) (by decide) e3 (by rw [regName_eq hz] at h2; exact h2))
  · have hi : i = 4 := by omega
    subst hi
    rw [nmFrom4, List.append_nil] at h2
    subst h2
    exact l_nm1 p.mems hm (namesS p) (0, R, n, regNames p) ⟨h1, rfl, by simp, by simp, by simp; omega⟩
theorem c_names_good : c_names.fe.Good Tryd.prog := by
  refine FT.good c_names ⟨Tryd.f20, by kernel_rfl, by decide +kernel, by kernel_rfl⟩ (fun p => by first | rfl | simp [c_names, rrRef, rsl, rss, rnewI, rnewE, rstab, rplaces, ri, rb, rib, rR, riib3, rnum, rby, rTx, Sta.fresh]) fun p hp => ?_
  refine acalls_le s_names_sound (fn := Tryd.f20) (a := a_names) (nargs := 1) (tbl := [(3, [1, 3, 10, 11, 1000003000000900001001]), (9, [3, 26, 27, 28, 1000003000000900001001]), (12, [3, 7, 26, 27, 28, 35, 36, 1000003000000900001001])]) (by kernel_rfl) (by kernel_rfl) rfl (m := 400) ?_
  show VC.holds _ _ _ (a_names.start s_names 400 [ap p])
  rw [t_names]
  try simp only [asRows_sl, asInt_int, asBool_bool, asStr_str, listOf_rowsOn, List.drop_zero, Prg.eta, Sta.eta, rowsOn_length, getD_drop, Nat.reduceAdd, rd_int, rd_PMem_name, rd_PMem_secret, rd_PMem_n, rd_PLabel_name, rd_PLabel_at_, rd_Ins_kind, rd_Ins_op, rd_Ins_d, rd_Ins_aR, rd_Ins_aN, rd_Ins_bR, rd_Ins_bN, rd_Ins_name, rd_Ins_target, rd_Ent_pc, rd_Ent_val, rd_Ent_addr, rd_Ent_fro, rd_Ent_next, rd_Ent_done, rd_Ent_known, rd_Ent_fault, rd_Place_reg, rd_Place_n, rd_Place_secret, rd_Obs_kind, rd_Obs_at_, rd_Dir_kind, rd_Dir_n, rd_Rn_v, rd_Tok_kind, rd_Tok_text, rd_Tok_n, rd_Tok_at_]
  try simp only [c_names] at hp
  exact l_nm0 p (MemsF.ok hp) (0, [], 0) ⟨by simp, by simp, [], OnL.nil, by simp [nmFrom], by simp⟩
noncomputable def v_names : Prg → List Tx := fun p => namesS p
noncomputable def sh_names : List Tx → RR := fun l => rTx l
theorem e_names (x : Prg) : sh_names (v_names x) = c_names.ans x := rfl
def aPl (q : Place) : A := .agg (row q)
def rdSQ : List A → Sta × Place
  | [.agg s, .agg r] => (Sta.of s, Row.of r)
  | _ => default
def c_held : FT (Sta × Place) := ⟨23, fun x => [as_ x.1, aPl x.2], rdSQ, fun x => 0 ≤ x.2.n ∧ (x.2.reg = true → x.2.n < 4), fun x => ri (heldS x.1 x.2), false, fun x => by simp [as_, aPl, rdSQ, Row.of_row]⟩
noncomputable def a_held : FnA := (fnA Tryd.prog Tryd.f23 2 []).getD ⟨0, .skip, [], []⟩
def s_held : Sp := spT []
theorem s_held_sound : s_held.sound Tryd.prog := spT_sound fun e he => by cases he
set_option maxRecDepth 100000 in
theorem t_held (s : Sta) (q : Place) : a_held.start s_held 400 [as_ s, aPl q] =
(VC.br (q.reg)
 (VC.br (decide (q.n = (0 : Int)))
  (VC.ret (some (RR.c (Rc.d (D.int IntKind.i64 s.r0)))))
  (VC.br (decide (q.n = (1 : Int)))
   (VC.ret (some (RR.c (Rc.d (D.int IntKind.i64 s.r1)))))
   (VC.br (decide (q.n = (2 : Int)))
    (VC.ret (some (RR.c (Rc.d (D.int IntKind.i64 s.r2)))))
    (VC.br (decide (q.n = (3 : Int)))
     (VC.ret (some (RR.c (Rc.d (D.int IntKind.i64 s.r3)))))
     VC.ff))))
 (VC.br (decide (q.n < (↑(List.length (rowsOn s.mem)) : Int)))
  (VC.need ((0 : Int) ≤ q.n ∧ q.n < (↑(List.length (rowsOn s.mem)) : Int) ∧ List.length (rowAt (rowsOn s.mem) (Int.toNat q.n)) = (1 : Nat))
  (VC.need (okSh [Kd.int IntKind.i64] (rowAt (rowsOn s.mem) (Int.toNat q.n)))
  (VC.ret (some (RR.c (Rc.d (D.int IntKind.i64 (asInt (List.getD (rowAt (rowsOn s.mem) (Int.toNat q.n)) (0 : Nat) D.nilp)))))))))
  (VC.ret (some (RR.c (Rc.d (D.int IntKind.i64 (0 : Int)))))))) := by kernel_rfl
theorem c_held_good : c_held.fe.Good Tryd.prog := by
  refine FT.good c_held ⟨Tryd.f23, by kernel_rfl, by decide +kernel, by kernel_rfl⟩ (fun ⟨s, q⟩ => by first | rfl | simp [c_held, rrRef, rsl, rss, rnewI, rnewE, rstab, rplaces, ri, rb, rib, rR, riib3, rnum, rby, rTx, Sta.fresh]) fun ⟨s, q⟩ hp => ?_
  refine acalls_le s_held_sound (fn := Tryd.f23) (a := a_held) (nargs := 2) (tbl := []) (by kernel_rfl) (by kernel_rfl) rfl (m := 400) ?_
  show VC.holds _ _ _ (a_held.start s_held 400 [as_ s, aPl q])
  rw [t_held]
  try simp only [asRows_sl, asInt_int, asBool_bool, asStr_str, listOf_rowsOn, List.drop_zero, Prg.eta, Sta.eta, rowsOn_length, getD_drop, Nat.reduceAdd, rd_int, rd_PMem_name, rd_PMem_secret, rd_PMem_n, rd_PLabel_name, rd_PLabel_at_, rd_Ins_kind, rd_Ins_op, rd_Ins_d, rd_Ins_aR, rd_Ins_aN, rd_Ins_bR, rd_Ins_bN, rd_Ins_name, rd_Ins_target, rd_Ent_pc, rd_Ent_val, rd_Ent_addr, rd_Ent_fro, rd_Ent_next, rd_Ent_done, rd_Ent_known, rd_Ent_fault, rd_Place_reg, rd_Place_n, rd_Place_secret, rd_Obs_kind, rd_Obs_at_, rd_Dir_kind, rd_Dir_n, rd_Rn_v, rd_Tok_kind, rd_Tok_text, rd_Tok_n, rd_Tok_at_]
  try simp only [c_held] at hp
  obtain ⟨h0, h4⟩ := hp
  have h0 : 0 ≤ q.n := h0
  have h4 : q.reg = true → q.n < 4 := h4
  have e : c_held.ans (s, q) = ri (heldS s q) := rfl
  rw [e]
  unfold heldS
  refine br_holds (fun hr => ?_) (fun hr => ?_)
  · rw [if_pos hr]
    have := h4 hr
    unfold Sta.reg
    refine br_dec (fun e0 => ?_) (fun e0 => br_dec (fun e1 => ?_) (fun e1 => br_dec (fun e2 => ?_) (fun e2 => br_dec (fun e3 => ?_) (fun e3 => by omega))))
    · rw [if_pos e0]; exact ret_le (RR.le_refl _)
    · rw [if_neg e0, if_pos e1]; exact ret_le (RR.le_refl _)
    · rw [if_neg e0, if_neg e1, if_pos e2]; exact ret_le (RR.le_refl _)
    · rw [if_neg e0, if_neg e1, if_neg e2, if_pos e3]; exact ret_le (RR.le_refl _)
  · rw [if_neg (by rw [hr]; simp)]
    refine br_dec (fun hk => ⟨idx_ok _ _ _ rfl h0 hk, okSh_ok _ s.mem q.n (fun _ => rfl) h0 hk, ?_⟩) (fun hk => ?_)
    · rw [if_pos hk]; exact ret_le (RR.le_refl _)
    · rw [if_neg hk]; exact ret_le (RR.le_refl _)
noncomputable def v_held : Sta × Place → Int := fun x => heldS x.1 x.2
noncomputable def sh_held : Int → RR := fun i => ri i
theorem e_held (x : Sta × Place) : sh_held (v_held x) = c_held.ans x := rfl
end Go.Proofs.YtmmlolampgnamaaDoor.Ax
end

section
/- What a state is told as: show's State. -/
namespace Go.Proofs.YtmmlolampgnamaaDoor.Ax
open Go.RowKit
set_option linter.unusedVariables false
set_option linter.unusedSimpArgs false
@[simp] theorem rd_Tx_v' (l : List Tx) (i : Int) : asStr (List.getD (rowAt (rowsOn l) (Int.toNat i)) 0 .nilp) = (rd l i).v := rd_Tx_v l i
def rdPSw : List A → Prg × Sta
  | [.agg p, .agg s] => (Prg.of p, Sta.of s)
  | _ => default
def c_show : FT (Prg × Sta) := ⟨8, fun x => [ap x.1, as_ x.2], rdPSw, fun x => MemsF x.1.mems ∧ ∀ v ∈ valsS x.1 x.2, 0 ≤ v ∧ v ≤ 9, fun x => .c (.d (.str (showS x.1 x.2))), false, fun x => by simp [ap, as_, rdPSw]⟩
noncomputable def a_show : FnA := (fnA Tryd.prog Tryd.f8 2 [(3, [3, 5, 11, 12, 13])]).getD ⟨0, .skip, [], []⟩
noncomputable def s_show : Sp := spT [c_names.gfe v_names sh_names e_names, c_aPlaces.gfe v_aPlaces sh_aPlaces e_aPlaces, c_held.gfe v_held sh_held e_held, c_itoa.gfe v_itoa sh_itoa e_itoa, c_join.gfe v_join sh_join e_join]
theorem s_show_sound : s_show.sound Tryd.prog := spT_sound fun e he => by
  simp only [List.mem_cons, List.not_mem_nil, or_false] at he
  rcases he with rfl | rfl | rfl | rfl | rfl
  · exact FT.gfe_good c_names_good
  · exact FT.gfe_good c_aPlaces_good
  · exact FT.gfe_good c_held_good
  · exact FT.gfe_good c_itoa_good
  · exact FT.gfe_good c_join_good
def F_sh (s : Sta) (T : List (List D)) (n : Nat) (q : List Place) (k : Int) : St := ⟨mkS 31 [(3, vp 192), (5, vo 576 n), (11, vo 704 (rowsOn q).length), (12, vi (rowsOn q).length), (13, vi k)], [(192, bx s.cells), (576, ba 1 T), (704, ba 3 (rowsOn q))]⟩
set_option maxRecDepth 100000 in
theorem t_show (p : Prg) (s : Sta) : a_show.start s_show 400 [ap p, as_ s] =
(VC.need (PreOk c_names p [A.agg (Prg.cells p)])
(VC.all (v_names { w := p.w, window := p.window, fuel := p.fuel, r0 := p.r0, r1 := p.r1, r2 := p.r2, r3 := p.r3, mems := listOf PMem (rowsOn p.mems), labels := listOf PLabel (rowsOn p.labels), ins := listOf Ins (rowsOn p.ins) }) fun (y2 : List Tx) =>
(VC.need (PreOk c_aPlaces p [A.agg (Prg.cells p)])
(VC.all (v_aPlaces { w := p.w, window := p.window, fuel := p.fuel, r0 := p.r0, r1 := p.r1, r2 := p.r2, r3 := p.r3, mems := listOf PMem (rowsOn p.mems), labels := listOf PLabel (rowsOn p.labels), ins := listOf Ins (rowsOn p.ins) }) fun (y3 : List Place) =>
(FnA.at_ a_show 0 (F_sh s (rowsOn y2) (List.length (rowsOn y2)) y3 (0 : Int))))))) := by kernel_rfl
set_option maxRecDepth 100000 in
theorem t_sh0 (s : Sta) (T : List (List D)) (n : Nat) (q : List Place) (k : Int) : a_show.round s_show 400 0 (F_sh s T n q k) =
(VC.br (decide (k < (↑(List.length (rowsOn q)) : Int)))
 (VC.need ((0 : Int) ≤ k ∧ k < (↑(List.length (rowsOn q)) : Int))
 (VC.need (Int.toNat k < List.length (rowsOn q) ∧ List.length (rowAt (rowsOn q) (Int.toNat k)) = (3 : Nat) ∧ okSh [Kd.bool, Kd.int IntKind.i64, Kd.bool] (List.drop (0 : Nat) (rowAt (rowsOn q) (Int.toNat k))))
 (VC.need ((0 : Int) ≤ k ∧ k < (↑n : Int))
 (VC.need (Int.toNat k < List.length T ∧ List.length (rowAt T (Int.toNat k)) = (1 : Nat) ∧ okSh [Kd.str] (List.drop (0 : Nat) (rowAt T (Int.toNat k))))
 (VC.need (PreOk c_held (Sta.of (Sta.cells s), Row.of [D.bool (asBool (List.getD (List.drop (0 : Nat) (rowAt (rowsOn q) (Int.toNat k))) (0 : Nat) D.nilp)), D.int IntKind.i64 (asInt (List.getD (List.drop (0 : Nat) (rowAt (rowsOn q) (Int.toNat k))) (1 : Nat) D.nilp)), D.bool (asBool (List.getD (List.drop (0 : Nat) (rowAt (rowsOn q) (Int.toNat k))) (2 : Nat) D.nilp))]) [A.agg (Sta.cells s), A.agg [D.bool (asBool (List.getD (List.drop (0 : Nat) (rowAt (rowsOn q) (Int.toNat k))) (0 : Nat) D.nilp)), D.int IntKind.i64 (asInt (List.getD (List.drop (0 : Nat) (rowAt (rowsOn q) (Int.toNat k))) (1 : Nat) D.nilp)), D.bool (asBool (List.getD (List.drop (0 : Nat) (rowAt (rowsOn q) (Int.toNat k))) (2 : Nat) D.nilp))]])
 (VC.all (v_held (Sta.of (Sta.cells s), Row.of [D.bool (asBool (List.getD (List.drop (0 : Nat) (rowAt (rowsOn q) (Int.toNat k))) (0 : Nat) D.nilp)), D.int IntKind.i64 (asInt (List.getD (List.drop (0 : Nat) (rowAt (rowsOn q) (Int.toNat k))) (1 : Nat) D.nilp)), D.bool (asBool (List.getD (List.drop (0 : Nat) (rowAt (rowsOn q) (Int.toNat k))) (2 : Nat) D.nilp))])) fun (y5 : Int) =>
 (VC.need (PreOk c_itoa y5 [A.c (D.int IntKind.i64 y5)])
 (VC.all (v_itoa y5) fun (y6 : ByteArray) =>
 (VC.need (ByteArray.size (asStr (List.getD (List.drop (0 : Nat) (rowAt T (Int.toNat k))) (0 : Nat) D.nilp)) + ByteArray.size y6 ≤ (9223372036854775807 : Nat))
 (VC.need ((0 : Int) ≤ k ∧ k < (↑n : Int))
 (VC.need (Int.toNat k < List.length T ∧ List.length (rowAt T (Int.toNat k)) = (1 : Nat) ∧ (1 : Nat) ≤ (1 : Nat))
 (FnA.at_ a_show 0 (F_sh s (List.set T (Int.toNat k) (splice (rowAt T (Int.toNat k)) (0 : Nat) [D.str (asStr (List.getD (List.drop (0 : Nat) (rowAt T (Int.toNat k))) (0 : Nat) D.nilp) ++ y6)])) n q (IntKind.wrap IntKind.i64 (k + (1 : Int))))))))))))))))
 (VC.need (PreOk c_join (listOf Tx T, { data := #[(32 : UInt8)] }) [A.c (D.sl T), A.c (D.str { data := #[(32 : UInt8)] })])
 (VC.all (v_join (listOf Tx T, { data := #[(32 : UInt8)] })) fun (y5 : ByteArray) =>
 (VC.ret (some (RR.c (Rc.d (D.str y5)))))))) := by kernel_rfl
def midL (N : List Tx) (V : List Int) (k : Nat) : List Tx := (List.zipWith piece N V).take k ++ N.drop k
theorem midL_len {N : List Tx} {V : List Int} (h : N.length = V.length) (k : Nat) (hk : k ≤ N.length) : (midL N V k).length = N.length := by
  unfold midL
  rw [List.length_append, List.length_take, List.length_drop, List.length_zipWith]
  omega
theorem midL_rd {N : List Tx} {V : List Int} (h : N.length = V.length) {k : Int} (h0 : 0 ≤ k) (hk : k < N.length) : rd (midL N V k.toNat) k = rd N k := by
  have hl : ((List.zipWith piece N V).take k.toNat).length = k.toNat := by rw [List.length_take, List.length_zipWith]; omega
  unfold midL
  rw [rd_right _ _ _ (by omega), hl]
  unfold rd
  rw [List.getD_eq_getElem?_getD, List.getD_eq_getElem?_getD, List.getElem?_drop]
  congr 2
  omega
theorem midL_set {N : List Tx} {V : List Int} (h : N.length = V.length) {k : Int} (h0 : 0 ≤ k) (hk : k < N.length) : (midL N V k.toNat).set k.toNat (piece (rd N k) (rd V k)) = midL N V (k + 1).toNat := by
  have hl : ((List.zipWith piece N V).take k.toNat).length = k.toNat := by rw [List.length_take, List.length_zipWith]; omega
  unfold midL
  rw [List.set_append_right _ _ (by omega), hl, Nat.sub_self, show (k + 1).toNat = k.toNat + 1 by omega, List.take_add_one, List.drop_eq_getElem_cons (show k.toNat < N.length by omega)]
  rw [List.getElem?_eq_getElem (show k.toNat < (List.zipWith piece N V).length by rw [List.length_zipWith]; omega)]
  simp only [List.set_cons_zero, List.getElem_zipWith, Option.toList_some, List.append_assoc, List.singleton_append]
  congr 3
  · unfold rd
    rw [List.getD_eq_getElem?_getD, List.getElem?_eq_getElem (by omega)]; rfl
  · unfold rd
    rw [List.getD_eq_getElem?_getD, List.getElem?_eq_getElem (by omega)]; rfl
theorem midL_zero (N : List Tx) (V : List Int) : midL N V 0 = N := by simp [midL]
theorem midL_all {N : List Tx} {V : List Int} (h : N.length = V.length) {k : Nat} (hk : k = N.length) : midL N V k = List.zipWith piece N V := by
  subst hk
  unfold midL
  rw [List.drop_length, List.append_nil, List.take_of_length_le (by rw [List.length_zipWith]; omega)]
theorem names_size {p : Prg} (h : MemsF p.mems) : ∀ t ∈ namesS p, t.v.size ≤ 4 := by
  intro t ht
  unfold namesS regNames at ht
  have hr : ∀ n r : Int, (r = 0 ∨ r = 1 ∨ r = 2 ∨ r = 3) → t ∈ regName n r → t.v.size ≤ 4 := fun n r hr hm => by
    unfold regName at hm
    split at hm
    · cases hm
    · simp only [List.mem_singleton] at hm
      subst hm
      rcases hr with rfl | rfl | rfl | rfl
      · show (nameR 0).size ≤ 4; decide
      · show (nameR 1).size ≤ 4; decide
      · show (nameR 2).size ≤ 4; decide
      · show (nameR 3).size ≤ 4; decide
  simp only [List.mem_append] at ht
  rcases ht with (((ht | ht) | ht) | ht) | ht
  · exact hr _ _ (by simp) ht
  · exact hr _ _ (by simp) ht
  · exact hr _ _ (by simp) ht
  · exact hr _ _ (by simp) ht
  · have : ∀ t ∈ memNames p.mems, t.v.size ≤ 4 := by
      rcases h with h | h | h | h | h <;> (rw [h]; decide)
    exact this t ht
theorem MemsF.mems {ms : List PMem} (h : MemsF ms) : Mems ms := ⟨by have := (MemsF.ok h).len; omega, fun m hm => by have := (MemsF.ok h).n m hm; omega⟩
theorem MemsF.cells {ms : List PMem} (h : MemsF ms) : cellsS ms ≤ 2 := by
  rcases h with rfl | rfl | rfl | rfl | rfl <;> decide
theorem places_few {p : Prg} (h : MemsF p.mems) : (placesS p).length ≤ 6 := by
  unfold placesS regPlaces
  have hr : ∀ n r : Int, (regPlace n r).length ≤ 1 := fun n r => by unfold regPlace; split <;> simp
  have h0 := hr p.r0 0
  have h1 := hr p.r1 1
  have h2 := hr p.r2 2
  have h3 := hr p.r3 3
  have hm : (memPlaces p.mems 0).length ≤ 2 := by
    rcases h with h | h | h | h | h <;> (rw [h]; decide)
  simp only [List.length_append]
  omega
theorem l_sh0 (p : Prg) (s : Sta) (hm : MemsF p.mems) (N : List Tx) (q : List Place) (hN : N = namesS p) (hq : q = placesS p) (hv : ∀ v ∈ valsS p s, 0 ≤ v ∧ v ≤ 9) : ∀ i_ : Int × List (List D) × Nat, (fun (i : Int × List (List D) × Nat) => 0 ≤ i.1 ∧ i.1 ≤ q.length ∧ OnL i.2.1 i.2.2 (midL N (q.map (heldS s)) i.1.toNat)) i_ → (a_show.at_ 0 ((fun (i : Int × List (List D) × Nat) => F_sh s i.2.1 i.2.2 q i.1) i_)).holds s_show.cx a_show.rs (fun r => r.le (.c (.d (.str (showS p s))))) := by
  refine loop_rule (a := a_show) (j := 0) (m := 400) s_show_sound (fun (i : Int × List (List D) × Nat) => F_sh s i.2.1 i.2.2 q i.1) (fun (i : Int × List (List D) × Nat) => 0 ≤ i.1 ∧ i.1 ≤ q.length ∧ OnL i.2.1 i.2.2 (midL N (q.map (heldS s)) i.1.toNat)) (fun (i : Int × List (List D) × Nat) => ((q.length : Int) - i.1).toNat) ?_
  rintro ⟨k, T, n⟩ h_inv ih
  try dsimp only at h_inv
  replace ih := fun (v0 : Int) (v1 : List (List D)) (v2 : Nat) => ih (v0, v1, v2)
  try dsimp only at ih
  show VC.holds _ _ _ (a_show.round s_show 400 0 (F_sh s T n q k))
  rw [t_sh0]
  try simp only [asRows_sl, asInt_int, asBool_bool, asStr_str, listOf_rowsOn, List.drop_zero, Prg.eta, Sta.eta, rowsOn_length, getD_drop, Nat.reduceAdd, rd_int, rd_PMem_name, rd_PMem_secret, rd_PMem_n, rd_PLabel_name, rd_PLabel_at_, rd_Ins_kind, rd_Ins_op, rd_Ins_d, rd_Ins_aR, rd_Ins_aN, rd_Ins_bR, rd_Ins_bN, rd_Ins_name, rd_Ins_target, rd_Ent_pc, rd_Ent_val, rd_Ent_addr, rd_Ent_fro, rd_Ent_next, rd_Ent_done, rd_Ent_known, rd_Ent_fault, rd_Place_reg, rd_Place_n, rd_Place_secret, rd_Obs_kind, rd_Obs_at_, rd_Dir_kind, rd_Dir_n, rd_Rn_v, rd_Tok_kind, rd_Tok_text, rd_Tok_n, rd_Tok_at_]
  obtain ⟨h0, h1, h2⟩ := h_inv
  have hlq : N.length = q.length := by rw [hN, hq, names_len hm]
  have hlV : N.length = (q.map (heldS s)).length := by rw [List.length_map]; exact hlq
  have hq6 : q.length ≤ 6 := by rw [hq]; exact places_few hm
  have hml := midL_len hlV k.toNat (by omega)
  obtain ⟨rfl, hn⟩ := h2
  rw [wrap_small (k + 1) (by omega) (by omega)]
  simp only [rd_Tx_v, Sta.of_cells, rowsOn_length]
  refine br_dec (fun hk => ?_) (fun hk => ?_)
  · have hx := places_ok p (MemsF.mems hm) (rd q k) (by rw [← hq]; exact rd_mem q k h0 hk)
    have hvk : 0 ≤ heldS s (rd q k) ∧ heldS s (rd q k) ≤ 9 := hv _ (List.mem_map.2 ⟨rd q k, by rw [← hq]; exact rd_mem q k h0 hk, rfl⟩)
    have hrV : rd (q.map (heldS s)) k = heldS s (rd q k) := by
      unfold rd
      rw [List.getD_eq_getElem?_getD, List.getD_eq_getElem?_getD, List.getElem?_map, List.getElem?_eq_getElem (show k.toNat < q.length by omega)]
      rfl
    have hst : ∀ x : Tx, OnL ((rowsOn (midL N (q.map (heldS s)) k.toNat)).set k.toNat (splice (rowAt (rowsOn (midL N (q.map (heldS s)) k.toNat)) k.toNat) 0 (row x))) n ((midL N (q.map (heldS s)) k.toNat).set k.toNat x) := fun x => OnL.set ⟨rfl, hn⟩ h0 (by omega) x
    have hsz := names_size hm (rd N k) (by rw [← hN]; exact rd_mem N k h0 (by omega))
    refine ⟨⟨h0, hk⟩, aload_ok q k rfl (fun _ => rfl) h0 hk, ⟨h0, by omega⟩, aload_ok (midL N (q.map (heldS s)) k.toNat) k rfl (fun _ => rfl) h0 (by omega), PreOk.mk ⟨?_, ?_⟩ rfl, all_holds fun y hy => ?_⟩
    · show 0 ≤ (rd q k).n
      by_cases hr : (rd q k).reg = true
      · have := hx.1 hr; omega
      · have := hx.2 (by simpa using hr); omega
    · intro hr
      have := hx.1 hr
      show (rd q k).n < 4
      omega
    · replace hy : y = heldS s (rd q k) := hy
      subst hy
      refine ⟨PreOk.mk hvk rfl, all_holds fun z hz => ?_⟩
      replace hz : z = digS (heldS s (rd q k)) := hz
      subst hz
      rw [midL_rd hlV h0 (by omega)]
      refine ⟨by rw [digS_size]; omega, ⟨h0, by omega⟩, ⟨by omega, by rw [rowAt_on _ k h0 (by omega)]; rfl, Nat.le_refl _⟩, ih _ _ _ ⟨by omega, by omega, ?_⟩ (by omega)⟩
      have := hst (piece (rd N k) (heldS s (rd q k)))
      rw [← hrV, midL_set hlV h0 (by omega), hrV] at this
      exact this
  · have ek : k.toNat = N.length := by omega
    rw [midL_all hlV ek, listOf_rowsOn]
    refine ⟨PreOk.mk ⟨?_, ?_, rfl⟩ rfl, all_holds fun y hy => ret_le ?_⟩
    · show (List.zipWith piece N (q.map (heldS s))).length ≤ 1000
      rw [List.length_zipWith]; omega
    · intro t ht
      obtain ⟨i, hi, rfl⟩ := List.getElem_of_mem ht
      rw [List.getElem_zipWith]
      have hs := names_size hm (N[i]'(by rw [List.length_zipWith] at hi; omega)) (by rw [← hN]; exact List.getElem_mem _)
      have hd := digS_size ((q.map (heldS s))[i]'(by rw [List.length_zipWith] at hi; omega))
      show (_ ++ digS _ : ByteArray).size ≤ 1000
      rw [ba_size, hd]; omega
    · replace hy : y = joinT (List.zipWith piece N (q.map (heldS s))) := hy
      subst hy
      have e : showS p s = joinT (List.zipWith piece N (q.map (heldS s))) := by
        unfold showS
        rw [toldL_piece, hN, hq]; rfl
      rw [e]
      exact RR.le_refl _
theorem c_show_good : c_show.fe.Good Tryd.prog := by
  refine FT.good c_show ⟨Tryd.f8, by kernel_rfl, by decide +kernel, by kernel_rfl⟩ (fun ⟨p, s⟩ => by first | rfl | simp [c_show, rrRef, rTx, rsl, rss, rnewI, rnewE, rstab, rplaces, ri, rb, rib, rR, riib3, rnum, rby, Sta.fresh]) fun ⟨p, s⟩ hp => ?_
  refine acalls_le s_show_sound (fn := Tryd.f8) (a := a_show) (nargs := 2) (tbl := [(3, [3, 5, 11, 12, 13])]) (by kernel_rfl) (by kernel_rfl) rfl (m := 400) ?_
  show VC.holds _ _ _ (a_show.start s_show 400 [ap p, as_ s])
  rw [t_show]
  try simp only [asRows_sl, asInt_int, asBool_bool, asStr_str, listOf_rowsOn, List.drop_zero, Prg.eta, Sta.eta, rowsOn_length, getD_drop, Nat.reduceAdd, rd_int, rd_PMem_name, rd_PMem_secret, rd_PMem_n, rd_PLabel_name, rd_PLabel_at_, rd_Ins_kind, rd_Ins_op, rd_Ins_d, rd_Ins_aR, rd_Ins_aN, rd_Ins_bR, rd_Ins_bN, rd_Ins_name, rd_Ins_target, rd_Ent_pc, rd_Ent_val, rd_Ent_addr, rd_Ent_fro, rd_Ent_next, rd_Ent_done, rd_Ent_known, rd_Ent_fault, rd_Place_reg, rd_Place_n, rd_Place_secret, rd_Obs_kind, rd_Obs_at_, rd_Dir_kind, rd_Dir_n, rd_Rn_v, rd_Tok_kind, rd_Tok_text, rd_Tok_n, rd_Tok_at_]
  try simp only [c_show] at hp
  obtain ⟨hm, hv⟩ := hp
  have hm : MemsF p.mems := hm
  refine ⟨PreOk.mk hm rfl, all_holds fun y hy => ⟨PreOk.mk (MemsF.mems hm) rfl, all_holds fun z hz => ?_⟩⟩
  replace hy : y = namesS p := hy
  replace hz : z = placesS p := hz
  subst hy hz
  exact l_sh0 p s hm _ _ rfl rfl hv (0, _, _) ⟨by simp, by simp, by rw [show Int.toNat 0 = 0 from rfl, midL_zero]; exact ⟨rfl, by simp⟩⟩
noncomputable def v_show : Prg × Sta → ByteArray := fun x => showS x.1 x.2
noncomputable def sh_show : ByteArray → RR := fun s => .c (.d (.str s))
theorem e_show (x : Prg × Sta) : sh_show (v_show x) = c_show.ans x := rfl
end Go.Proofs.YtmmlolampgnamaaDoor.Ax
end

section
/- What is told is read: show's Parse. -/
namespace Go.Proofs.YtmmlolampgnamaaDoor.Ax
open Go.RowKit
set_option linter.unusedVariables false
set_option linter.unusedSimpArgs false
def rdPT : List A → Prg × ByteArray
  | [.agg p, .c (.str s)] => (Prg.of p, s)
  | _ => default
def rParse (x : Sta × Int × Bool) : RR := .tup [.inr x.1.fresh, .inl (.d (.int .i64 x.2.1)), .inl (.d (.bool x.2.2))]
def c_parse : FT (Prg × ByteArray) := ⟨9, fun x => [ap x.1, at_ x.2], rdPT, fun x => MemsF x.1.mems ∧ 1 ≤ x.1.w ∧ x.1.w ≤ 2 ∧ x.2.size ≤ 1000000, fun x => rParse (parseS x.1 x.2), false, fun x => by simp [ap, at_, rdPT]⟩
noncomputable def v_wSize : Int → Int := fun w => sizeS w
noncomputable def sh_wSize : Int → RR := fun i => ri i
theorem e_wSize (x : Int) : sh_wSize (v_wSize x) = c_wSize.ans x := rfl
noncomputable def v_aStart : Prg × List Int → Sta × Bool := fun x => startS x.1 x.2
noncomputable def sh_aStart : Sta × Bool → RR := fun y => rstab y
theorem e_aStart (x : Prg × List Int) : sh_aStart (v_aStart x) = c_aStart.ans x := rfl
noncomputable def a_parse : FnA := (fnA Tryd.prog Tryd.f9 2 [(4, [2, 4, 7, 8, 9, 22, 23, 24, 1000009000000900009001]), (9, [2, 4, 7, 8, 9, 22, 23, 24, 34, 1000009000000900009001])]).getD ⟨0, .skip, [], []⟩
noncomputable def s_parse : Sp := spT [c_lRunes.gfe v_lRunes sh_lRunes e_lRunes, c_names.gfe v_names sh_names e_names, c_lNum.gfe v_lNum sh_lNum e_lNum, c_lAlone.gfe v_lAlone sh_lAlone e_lAlone, c_wSize.gfe v_wSize sh_wSize e_wSize, c_clip.gfe v_clip sh_clip e_clip, c_aStart.gfe v_aStart sh_aStart e_aStart]
theorem s_parse_sound : s_parse.sound Tryd.prog := spT_sound fun e he => by
  simp only [List.mem_cons, List.not_mem_nil, or_false] at he
  rcases he with rfl | rfl | rfl | rfl | rfl | rfl | rfl
  · exact FT.gfe_good c_lRunes_good
  · exact FT.gfe_good c_names_good
  · exact FT.gfe_good c_lNum_good
  · exact FT.gfe_good c_lAlone_good
  · exact FT.gfe_good c_wSize_good
  · exact FT.gfe_good c_clip_good
  · exact FT.gfe_good c_aStart_good
def F_pa (p : Prg) (r : List Rn) (a : Int) (V : List (List D)) (n : Nat) (N : List Tx) (i : Int) : St := ⟨mkS 99 [(2, vp 128), (4, vp 256), (7, vr (rowsOn r)), (8, vi a), (9, vo 900009 n), (22, vo 1408 (rowsOn N).length), (23, vi (rowsOn N).length), (24, vi i)],
  [(128, bx p.cells), (256, bc [.d (.int .i64 0), .d (.int .i64 0), .d (.int .i64 0), .d (.int .i64 0), .nil, .nil, .d (.int .i64 0)]), (1408, ba 1 (rowsOn N)), (900009, ba 1 V)]⟩
def F_pb (p : Prg) (r : List Rn) (a : Int) (V : List (List D)) (n : Nat) (N : List Tx) (i : Int) (s : ByteArray) (b : Nat) : St := ⟨mkS 99 [(2, vp 128), (4, vp 256), (7, vr (rowsOn r)), (8, vi a), (9, vo 900009 n), (22, vo 1408 (rowsOn N).length), (23, vi (rowsOn N).length), (24, vi i), (34, vp 2176)],
  [(128, bx p.cells), (256, bc [.d (.int .i64 0), .d (.int .i64 0), .d (.int .i64 0), .d (.int .i64 0), .nil, .nil, .d (.int .i64 0)]), (1408, ba 1 (rowsOn N)), (2176, ⟨1, false, .iter s b⟩), (900009, ba 1 V)]⟩
set_option maxRecDepth 100000 in
theorem t_parse (p : Prg) (t : ByteArray) : a_parse.start s_parse 400 [ap p, at_ t] =
(VC.need (PreOk c_lRunes (t, ()) [A.c (D.str t)])
(VC.all (v_lRunes (t, ())) fun (y2 : List Rn) =>
(VC.need (PreOk c_names p [A.agg (Prg.cells p)])
(VC.all (v_names { w := p.w, window := p.window, fuel := p.fuel, r0 := p.r0, r1 := p.r1, r2 := p.r2, r3 := p.r3, mems := listOf PMem (rowsOn p.mems), labels := listOf PLabel (rowsOn p.labels), ins := listOf Ins (rowsOn p.ins) }) fun (y3 : List Tx) =>
(FnA.at_ a_parse 0 (F_pa p y2 (0 : Int) [] (0 : Nat) y3 (0 : Int))))))) := by kernel_rfl
set_option maxRecDepth 100000 in
theorem t_pa (p : Prg) (r : List Rn) (a : Int) (V : List (List D)) (n : Nat) (N : List Tx) (i : Int) : a_parse.round s_parse 400 0 (F_pa p r a V n N i) =
(VC.br (decide (i < (↑(List.length (rowsOn N)) : Int)))
 (VC.need ((0 : Int) ≤ i ∧ i < (↑(List.length (rowsOn N)) : Int))
 (VC.need (Int.toNat i < List.length (rowsOn N) ∧ List.length (rowAt (rowsOn N) (Int.toNat i)) = (1 : Nat) ∧ okSh [Kd.str] (List.drop (0 : Nat) (rowAt (rowsOn N) (Int.toNat i))))
 (VC.br (decide ((0 : Int) < i))
  (VC.need ((1 : Nat) + ByteArray.size (asStr (List.getD (List.drop (0 : Nat) (rowAt (rowsOn N) (Int.toNat i))) (0 : Nat) D.nilp)) ≤ (9223372036854775807 : Nat))
  (FnA.at_ a_parse 1 (F_pb p r a V n N i ({ data := #[(32 : UInt8)] } ++ asStr (List.getD (List.drop (0 : Nat) (rowAt (rowsOn N) (Int.toNat i))) (0 : Nat) D.nilp)) (0 : Nat))))
  (FnA.at_ a_parse 1 (F_pb p r a V n N i (asStr (List.getD (List.drop (0 : Nat) (rowAt (rowsOn N) (Int.toNat i))) (0 : Nat) D.nilp)) (0 : Nat))))))
 (VC.br (decide (a < (↑(List.length (rowsOn r)) : Int)))
  (VC.ret (some (RR.tup [Sum.inr [Rc.d (D.int IntKind.i64 (0 : Int)), Rc.d (D.int IntKind.i64 (0 : Int)), Rc.d (D.int IntKind.i64 (0 : Int)), Rc.d (D.int IntKind.i64 (0 : Int)), Rc.nil, Rc.nil, Rc.d (D.int IntKind.i64 (0 : Int))], Sum.inl (Rc.d (D.int IntKind.i64 a)), Sum.inl (Rc.d (D.bool false))])))
  (VC.need (PreOk c_clip (listOf Int V, ()) [A.c (D.sl V)])
  (VC.all (v_clip (listOf Int V, ())) fun (y7 : List Int) =>
  (VC.need (PreOk c_aStart (Prg.of (Prg.cells p), y7) [A.agg (Prg.cells p), A.c (D.sl (rowsOn y7))])
  (VC.all (v_aStart (Prg.of (Prg.cells p), listOf Int (rowsOn y7))) fun (y8 : Sta × Bool) =>
  (VC.ret (some (RR.tup [Sum.inr [Rc.d (D.int IntKind.i64 y8.fst.r0), Rc.d (D.int IntKind.i64 y8.fst.r1), Rc.d (D.int IntKind.i64 y8.fst.r2), Rc.d (D.int IntKind.i64 y8.fst.r3), Rc.new (1 : Nat) (rowsOn y8.fst.mem), Rc.new (1 : Nat) (rowsOn y8.fst.stack), Rc.d (D.int IntKind.i64 y8.fst.pc)], Sum.inl (Rc.d (D.int IntKind.i64 (0 : Int))), Sum.inl (Rc.d (D.bool y8.snd))]))))))))) := by kernel_rfl
set_option maxRecDepth 100000 in
theorem t_pb (p : Prg) (r : List Rn) (a : Int) (V : List (List D)) (n : Nat) (N : List Tx) (i : Int) (s : ByteArray) (b : Nat) : a_parse.round s_parse 400 1 (F_pb p r a V n N i s b) =
(VC.br (decide (b < ByteArray.size s))
 (VC.br (decide ((↑(List.length (rowsOn r)) : Int) ≤ a))
  (VC.ret (some (RR.tup [Sum.inr [Rc.d (D.int IntKind.i64 (0 : Int)), Rc.d (D.int IntKind.i64 (0 : Int)), Rc.d (D.int IntKind.i64 (0 : Int)), Rc.d (D.int IntKind.i64 (0 : Int)), Rc.nil, Rc.nil, Rc.d (D.int IntKind.i64 (0 : Int))], Sum.inl (Rc.d (D.int IntKind.i64 a)), Sum.inl (Rc.d (D.bool false))])))
  (VC.need ((0 : Int) ≤ a ∧ a < (↑(List.length (rowsOn r)) : Int) ∧ List.length (rowAt (rowsOn r) (Int.toNat a)) = (1 : Nat))
  (VC.need (okSh [Kd.int IntKind.i32] (rowAt (rowsOn r) (Int.toNat a)))
  (VC.br (asInt (List.getD (rowAt (rowsOn r) (Int.toNat a)) (0 : Nat) D.nilp) != (↑(Utf8.decode s b).fst : Int))
   (VC.ret (some (RR.tup [Sum.inr [Rc.d (D.int IntKind.i64 (0 : Int)), Rc.d (D.int IntKind.i64 (0 : Int)), Rc.d (D.int IntKind.i64 (0 : Int)), Rc.d (D.int IntKind.i64 (0 : Int)), Rc.nil, Rc.nil, Rc.d (D.int IntKind.i64 (0 : Int))], Sum.inl (Rc.d (D.int IntKind.i64 a)), Sum.inl (Rc.d (D.bool false))])))
   (FnA.at_ a_parse 1 (F_pb p r (IntKind.wrap IntKind.i64 (a + (1 : Int))) V n N i s (b + (Utf8.decode s b).snd)))))))
 (VC.need (PreOk c_lNum (r, a, Int.toNat (5 : Int)) [A.c (D.sl (rowsOn r)), A.c (D.int IntKind.i64 a), A.c (D.int IntKind.i64 (5 : Int))])
 (VC.all (v_lNum (listOf Rn (rowsOn r), a, (5 : Nat))) fun (y9 : Int × Int × Bool) =>
 (VC.br (!y9.snd.snd)
  (VC.ret (some (RR.tup [Sum.inr [Rc.d (D.int IntKind.i64 (0 : Int)), Rc.d (D.int IntKind.i64 (0 : Int)), Rc.d (D.int IntKind.i64 (0 : Int)), Rc.d (D.int IntKind.i64 (0 : Int)), Rc.nil, Rc.nil, Rc.d (D.int IntKind.i64 (0 : Int))], Sum.inl (Rc.d (D.int IntKind.i64 a)), Sum.inl (Rc.d (D.bool false))])))
  (VC.need (PreOk c_lAlone (r, y9.snd.fst) [A.c (D.sl (rowsOn r)), A.c (D.int IntKind.i64 y9.snd.fst)])
  (VC.all (v_lAlone (listOf Rn (rowsOn r), y9.snd.fst)) fun (y10 : Bool) =>
  (VC.br (!y10)
   (VC.ret (some (RR.tup [Sum.inr [Rc.d (D.int IntKind.i64 (0 : Int)), Rc.d (D.int IntKind.i64 (0 : Int)), Rc.d (D.int IntKind.i64 (0 : Int)), Rc.d (D.int IntKind.i64 (0 : Int)), Rc.nil, Rc.nil, Rc.d (D.int IntKind.i64 (0 : Int))], Sum.inl (Rc.d (D.int IntKind.i64 a)), Sum.inl (Rc.d (D.bool false))])))
   (VC.need (PreOk c_wSize p.w [A.c (D.int IntKind.i64 p.w)])
   (VC.all (v_wSize p.w) fun (y11 : Int) =>
   (VC.br (decide (y11 ≤ y9.fst))
    (VC.ret (some (RR.tup [Sum.inr [Rc.d (D.int IntKind.i64 (0 : Int)), Rc.d (D.int IntKind.i64 (0 : Int)), Rc.d (D.int IntKind.i64 (0 : Int)), Rc.d (D.int IntKind.i64 (0 : Int)), Rc.nil, Rc.nil, Rc.d (D.int IntKind.i64 (0 : Int))], Sum.inl (Rc.d (D.int IntKind.i64 a)), Sum.inl (Rc.d (D.bool false))])))
    (VC.need ((List.all [[D.int IntKind.i64 y9.fst]] fun r ↦ List.length r == (1 : Nat)) = true ∧ (List.all V fun r ↦ List.length r == (1 : Nat)) = true ∧ (List.length V + List.length [[D.int IntKind.i64 y9.fst]] + (100 : Nat)) * (9 : Nat) ≤ (70368744177664 : Nat))
    (FnA.at_ a_parse 0 (F_pa p r y9.snd.fst (V ++ [[D.int IntKind.i64 y9.fst]]) (List.length V + List.length [[D.int IntKind.i64 y9.fst]]) N (IntKind.wrap IntKind.i64 (i + (1 : Int)))))))))))))))) := by kernel_rfl
theorem numL_len5 {l : List Rn} {m : Nat} {n : Int} {k : Nat} (h : numL l m = some (n, k)) : k ≤ l.length := by
  unfold numL at h
  cases l with
  | nil => cases h
  | cons c l =>
    dsimp only at h
    split at h
    · split at h
      · simp only [Option.some.injEq, Prod.mk.injEq] at h
        simp only [List.length_cons]; omega
      · simp only [Option.some.injEq] at h
        have h1 := digF_len (c :: l) m 0
        have h2 : (digF (c :: l) m 0).2 = k := by rw [h]
        omega
    · cases h
/-- What was read ahead, and what comes. -/
def joinP (acc : List Int) (r : List Int × Int × Bool) : List Int × Int × Bool := if r.2.2 = true then (acc ++ r.1, 0, true) else ([], r.2.1, false)
def endP (p : Prg) (r : List Int × Int × Bool) : Sta × Int × Bool := if r.2.2 = true then ((startS p r.1).1, 0, (startS p r.1).2) else (zeroSta 0, r.2.1, false)
theorem joinP_join (acc : List Int) (n : Int) (r : List Int × Int × Bool) : joinP acc (if r.2.2 = true then (n :: r.1, 0, true) else ([], r.2.1, false)) = joinP (acc ++ [n]) r := by
  unfold joinP
  by_cases h : r.2.2 = true
  · rw [if_pos h, if_pos rfl, if_pos h, List.append_assoc]; rfl
  · rw [if_neg h, if_neg (by simp), if_neg h]
theorem joinP_nil {size : Int} (hs : size ≤ 10) (ws : List (List Rn)) (l : List Rn) (a : Int) : joinP [] (parseF size ws l a) = parseF size ws l a := by
  unfold joinP
  by_cases h : (parseF size ws l a).2.2 = true
  · rw [if_pos h, List.nil_append, ← (parse_inv size hs ws l a h).2.2.1, ← h]
  · have h' : (parseF size ws l a).2.2 = false := by simpa using h
    rw [if_neg h, ← parse_bad size ws l a h', ← h']
def badR (a : Int) : RR := RR.tup [Sum.inr [(Rc.d (D.int .i64 0)), (Rc.d (D.int .i64 0)), (Rc.d (D.int .i64 0)), (Rc.d (D.int .i64 0)), Rc.nil, Rc.nil, (Rc.d (D.int .i64 0))], Sum.inl (Rc.d (D.int .i64 a)), Sum.inl (Rc.d (D.bool false))]
theorem bad_le (a : Int) : (badR a).le (rParse (zeroSta 0, a, false)) := by simp [badR, rParse, zeroSta, Sta.fresh, RR.le, Rc.le1s, Rc.le1, Rc.les, rowsOn]
theorem matchN_ne {c : Rn} {cs l : List Rn} {r : Rn} (h : r.v ≠ c.v) : matchN (c :: cs) (r :: l) = 0 := by
  show (if r = c then matchN cs l + 1 else 0) = 0
  rw [if_neg fun e => h (congrArg Rn.v e)]
theorem matchN_eq {c : Rn} {cs l : List Rn} {r : Rn} (h : r.v = c.v) : matchN (c :: cs) (r :: l) = matchN cs l + 1 := by
  show (if r = c then matchN cs l + 1 else 0) = _
  have : r = c := by
    obtain ⟨x⟩ := r
    obtain ⟨y⟩ := c
    have h : x = y := h
    rw [h]
  rw [if_pos this]
theorem l_pb (p : Prg) (hw : 1 ≤ p.w ∧ p.w ≤ 2) (r : List Rn) (hr : r.length ≤ 1000000) (a0 : Int) (ha0 : 0 ≤ a0) (acc : List Int) (V : List (List D)) (n : Nat) (hV : OnL V n acc) (hacc : acc.length ≤ 1000000) (N : List Tx) (hN : N.length ≤ 1000) (i : Int) (hi : 0 ≤ i) (hi2 : i < N.length) (s : ByteArray) (fin : List Int × Int × Bool) (hs : s = wantI N i)  (hfin : joinP acc (parseF (sizeS p.w) ((wantsS N).drop i.toNat) (r.drop a0.toNat) a0) = fin)  (hnext : ∀ (a : Int) (V' : List (List D)) (n' : Nat) (acc' : List Int), OnL V' n' acc' → acc'.length = acc.length + 1 → 0 ≤ a → a ≤ r.length → joinP acc' (parseF (sizeS p.w) ((wantsS N).drop (i + 1).toNat) (r.drop a.toNat) a) = fin → (a_parse.at_ 0 (F_pa p r a V' n' N (i + 1))).holds s_parse.cx a_parse.rs fun x => x.le (rParse (endP p fin))) : ∀ i_ : Int × Nat, (fun (v : Int × Nat) => ∃ T : List Rn, T ++ runesAt s v.2 = runesS s ∧ v.1 = a0 + T.length ∧ v.1 ≤ r.length ∧ matchN (runesS s) (r.drop a0.toNat) = T.length + matchN (runesAt s v.2) (r.drop v.1.toNat)) i_ → (a_parse.at_ 1 ((fun (v : Int × Nat) => F_pb p r v.1 V n N i s v.2) i_)).holds s_parse.cx a_parse.rs (fun x => x.le (rParse (endP p fin))) := by
  refine loop_rule (a := a_parse) (j := 1) (m := 400) s_parse_sound (fun (v : Int × Nat) => F_pb p r v.1 V n N i s v.2) (fun (v : Int × Nat) => ∃ T : List Rn, T ++ runesAt s v.2 = runesS s ∧ v.1 = a0 + T.length ∧ v.1 ≤ r.length ∧ matchN (runesS s) (r.drop a0.toNat) = T.length + matchN (runesAt s v.2) (r.drop v.1.toNat)) (fun (v : Int × Nat) => s.size - v.2) ?_
  rintro ⟨a, b⟩ h_inv ih
  try dsimp only at h_inv
  replace ih := fun (v0 : Int) (v1 : Nat) => ih (v0, v1)
  try dsimp only at ih
  show VC.holds _ _ _ (a_parse.round s_parse 400 1 (F_pb p r a V n N i s b))
  rw [t_pb]
  try simp only [asRows_sl, asInt_int, asBool_bool, asStr_str, listOf_rowsOn, List.drop_zero, Prg.eta, Sta.eta, rowsOn_length, getD_drop, Nat.reduceAdd, rd_int, rd_PMem_name, rd_PMem_secret, rd_PMem_n, rd_PLabel_name, rd_PLabel_at_, rd_Ins_kind, rd_Ins_op, rd_Ins_d, rd_Ins_aR, rd_Ins_aN, rd_Ins_bR, rd_Ins_bN, rd_Ins_name, rd_Ins_target, rd_Ent_pc, rd_Ent_val, rd_Ent_addr, rd_Ent_fro, rd_Ent_next, rd_Ent_done, rd_Ent_known, rd_Ent_fault, rd_Place_reg, rd_Place_n, rd_Place_secret, rd_Obs_kind, rd_Obs_at_, rd_Dir_kind, rd_Dir_n, rd_Rn_v, rd_Tok_kind, rd_Tok_text, rd_Tok_n, rd_Tok_at_]
  obtain ⟨T, h1, h2, h3, h4⟩ := h_inv
  have hp := decode_pos s b
  rw [wants_drop N i hi hi2, ← hs, parseF] at hfin
  have hwl : (runesS s).length = T.length + (runesAt s b).length := by rw [← h1, List.length_append]
  -- it goes wrong amid a name
  have bad : matchN (runesAt s b) (r.drop a.toNat) = 0 → 0 < (runesAt s b).length → (VC.ret (some (badR a))).holds s_parse.cx a_parse.rs fun x => x.le (rParse (endP p fin)) := fun e hl => by
    rw [e] at h4
    rw [if_pos (by omega), h4] at hfin
    rw [← hfin]
    refine ret_le ?_
    have := bad_le a
    unfold endP joinP
    simp only [Bool.false_eq_true, if_false, Nat.add_zero]
    rw [← h2]; exact this
  refine br_dec (fun hb => ?_) (fun hb => ?_)
  · have hc := runesAt_lt s b hb
    have hl : 0 < (runesAt s b).length := by rw [hc]; simp
    refine br_dec (fun hd => bad (by rw [drop_end r a hd, hc]; rfl) hl) (fun hd => ?_)
    have hdr := drop_rn r a (by omega) (by omega)
    refine ⟨rn_ok r a (by omega) (by omega), rn_sh r a (by omega) (by omega), br_bne (fun hne => bad (by rw [hdr, hc]; exact matchN_ne hne) hl) (fun heq => ?_)⟩
    rw [wrap_small (a + 1) (by omega) (by omega)]
    refine ih _ _ ⟨T ++ [⟨((Utf8.decode s b).1 : Int)⟩], ?_, ?_, by omega, ?_⟩ (by omega)
    · rw [List.append_assoc, ← h1, hc]; rfl
    · rw [List.length_append, List.length_singleton]; omega
    · rw [h4, hdr, hc, matchN_eq heq, List.length_append, List.length_singleton]; omega
  · have hc := runesAt_ge s b (by omega)
    rw [hc, List.append_nil] at h1
    rw [hc] at h4 hwl
    have hm0 : matchN ([] : List Rn) (r.drop a.toNat) = 0 := by cases r.drop a.toNat <;> rfl
    rw [hm0] at h4
    simp only [List.length_nil] at hwl
    have ea : a = a0 + ((runesS s).length : Int) := by omega
    have hd1 : (r.drop a0.toNat).drop (runesS s).length = r.drop a.toNat := by rw [List.drop_drop, show a0.toNat + (runesS s).length = a.toNat by omega]
    rw [if_neg (by omega), hd1, ← ea] at hfin
    -- it goes wrong at the number
    have bad2 : joinP acc ([], a, false) = fin → (VC.ret (some (badR a))).holds s_parse.cx a_parse.rs fun x => x.le (rParse (endP p fin)) := fun e => by
      rw [← e]
      exact ret_le (bad_le a)
    refine ⟨PreOk.mk ⟨hr, by show 0 ≤ a; omega, by show a ≤ 1000000; omega, by show 5 ≤ 9; decide⟩ rfl, all_holds fun y9 hy9 => ?_⟩
    replace hy9 : y9 = numS r a 5 := hy9
    unfold numS at hy9
    cases hn : numL (r.drop a.toNat) 5 with
    | none =>
      rw [hn] at hy9 hfin
      subst hy9
      exact br_not (br_holds (fun h => by cases h) (fun _ => bad2 hfin))
    | some q =>
      obtain ⟨v, k⟩ := q
      have hk := numL_len5 hn
      rw [List.length_drop] at hk
      rw [hn] at hy9 hfin
      dsimp only at hy9 hfin
      subst hy9
      have hd2 : (r.drop a0.toNat).drop ((runesS s).length + k) = r.drop (a + k).toNat := by rw [List.drop_drop, show a0.toNat + ((runesS s).length + k) = (a + k).toNat by omega]
      rw [hd2] at hfin
      refine br_not (br_holds (fun _ => ⟨PreOk.mk (by show 0 ≤ a + (k : Int); omega) rfl, all_holds fun y10 hy10 => ?_⟩) (fun h => by cases h))
      replace hy10 : y10 = aloneL (r.drop (a + k).toNat) := hy10
      refine br_not (br_holds (fun h10 => ⟨PreOk.mk trivial rfl, all_holds fun y11 hy11 => ?_⟩) (fun h10 => bad2 ?_))
      · replace hy11 : y11 = sizeS p.w := hy11
        subst hy11
        refine br_dec (fun hsz => bad2 ?_) (fun hsz => ⟨app_ok hV rfl rfl (by simp only [List.length_cons, List.length_nil]; omega), ?_⟩)
        · rw [if_neg (fun h => by omega)] at hfin
          exact hfin
        · rw [if_pos ⟨by rw [← hy10]; exact h10, by omega⟩, joinP_join] at hfin
          rw [wrap_small (i + 1) (by omega) (by omega)]
          exact hnext (a + k) _ _ (acc ++ [v]) (hV.snoc v) (by rw [List.length_append, List.length_singleton]) (by omega) (by omega) hfin
      · rw [if_neg (fun h => by rw [← hy10, h10] at h; cases h.1)] at hfin
        exact hfin
theorem l_pa (p : Prg) (hm : MemsF p.mems) (hw : 1 ≤ p.w ∧ p.w ≤ 2) (r : List Rn) (hr : r.length ≤ 1000000) (N : List Tx) (hN : N.length ≤ 1000) (hNs : ∀ t ∈ N, t.v.size ≤ 1000) (fin : List Int × Int × Bool) : ∀ i_ : Int × Int × List (List D) × Nat, (fun (v : Int × Int × List (List D) × Nat) => 0 ≤ v.1 ∧ v.1 ≤ N.length ∧ 0 ≤ v.2.1 ∧ v.2.1 ≤ r.length ∧ ∃ acc : List Int, OnL v.2.2.1 v.2.2.2 acc ∧ acc.length = v.1.toNat ∧ joinP acc (parseF (sizeS p.w) ((wantsS N).drop v.1.toNat) (r.drop v.2.1.toNat) v.2.1) = fin) i_ → (a_parse.at_ 0 ((fun (v : Int × Int × List (List D) × Nat) => F_pa p r v.2.1 v.2.2.1 v.2.2.2 N v.1) i_)).holds s_parse.cx a_parse.rs (fun x => x.le (rParse (endP p fin))) := by
  refine loop_rule (a := a_parse) (j := 0) (m := 400) s_parse_sound (fun (v : Int × Int × List (List D) × Nat) => F_pa p r v.2.1 v.2.2.1 v.2.2.2 N v.1) (fun (v : Int × Int × List (List D) × Nat) => 0 ≤ v.1 ∧ v.1 ≤ N.length ∧ 0 ≤ v.2.1 ∧ v.2.1 ≤ r.length ∧ ∃ acc : List Int, OnL v.2.2.1 v.2.2.2 acc ∧ acc.length = v.1.toNat ∧ joinP acc (parseF (sizeS p.w) ((wantsS N).drop v.1.toNat) (r.drop v.2.1.toNat) v.2.1) = fin) (fun (v : Int × Int × List (List D) × Nat) => ((N.length : Int) - v.1).toNat) ?_
  rintro ⟨i, a, V, n⟩ h_inv ih
  try dsimp only at h_inv
  replace ih := fun (v0 : Int) (v1 : Int) (v2 : List (List D)) (v3 : Nat) => ih (v0, v1, v2, v3)
  try dsimp only at ih
  show VC.holds _ _ _ (a_parse.round s_parse 400 0 (F_pa p r a V n N i))
  rw [t_pa]
  try simp only [asRows_sl, asInt_int, asBool_bool, asStr_str, listOf_rowsOn, List.drop_zero, Prg.eta, Sta.eta, rowsOn_length, getD_drop, Nat.reduceAdd, rd_int, rd_PMem_name, rd_PMem_secret, rd_PMem_n, rd_PLabel_name, rd_PLabel_at_, rd_Ins_kind, rd_Ins_op, rd_Ins_d, rd_Ins_aR, rd_Ins_aN, rd_Ins_bR, rd_Ins_bN, rd_Ins_name, rd_Ins_target, rd_Ent_pc, rd_Ent_val, rd_Ent_addr, rd_Ent_fro, rd_Ent_next, rd_Ent_done, rd_Ent_known, rd_Ent_fault, rd_Place_reg, rd_Place_n, rd_Place_secret, rd_Obs_kind, rd_Obs_at_, rd_Dir_kind, rd_Dir_n, rd_Rn_v, rd_Tok_kind, rd_Tok_text, rd_Tok_n, rd_Tok_at_]
  obtain ⟨h0, h1, ha, ha2, acc, hV, hal, hfin⟩ := h_inv
  simp only [rd_Tx_v]
  refine br_dec (fun hi => ?_) (fun hi => ?_)
  · have hsz := hNs _ (rd_mem N i h0 hi)
    have go : ∀ s, s = wantI N i → (a_parse.at_ 1 (F_pb p r a V n N i s 0)).holds s_parse.cx a_parse.rs fun x => x.le (rParse (endP p fin)) := fun s hs =>
      l_pb p hw r hr a ha acc V n hV (by omega) N hN i h0 hi s fin hs hfin (fun a' V' n' acc' g1 g2 g3 g4 g5 => ih _ _ _ _ ⟨by omega, by omega, g3, g4, acc', g1, by omega, g5⟩ (by omega)) (a, 0) ⟨[], rfl, by simp, ha2, by rw [List.length_nil, Nat.zero_add]; rfl⟩
    refine ⟨⟨h0, hi⟩, aload_ok N i rfl (fun _ => rfl) h0 hi, br_dec (fun hp => ⟨by omega, go _ ?_⟩) (fun hp => go _ ?_)⟩
    · unfold wantI; rw [if_pos hp]; rfl
    · unfold wantI; rw [if_neg hp]
  · have ei : i.toNat = (wantsS N).length := by rw [wants_len]; omega
    rw [ei, List.drop_length] at hfin
    refine br_dec (fun hd => ?_) (fun hd => ?_)
    · rw [drop_rn r a ha hd] at hfin
      have hfin : joinP acc ([], a, false) = fin := hfin
      rw [← hfin]
      exact ret_le (bad_le a)
    · rw [drop_end r a (by omega)] at hfin
      have hfin : (acc ++ [], (0 : Int), true) = fin := hfin
      rw [List.append_nil] at hfin
      obtain ⟨rfl, rfl⟩ := hV
      rw [listOf_rowsOn]
      refine ⟨PreOk.mk (by show acc.length ≤ 1000000000; omega) rfl, all_holds fun y7 hy7 => ?_⟩
      replace hy7 : y7 = acc := hy7
      subst hy7
      simp only [Prg.of_cells, listOf_rowsOn]
      refine ⟨PreOk.mk (MemsF.mems hm) rfl, all_holds fun y8 hy8 => ?_⟩
      replace hy8 : y8 = startS p y7 := hy8
      subst hy8
      rw [← hfin]
      exact ret_le (RR.le_refl _)
theorem c_parse_good : c_parse.fe.Good Tryd.prog := by
  refine FT.good c_parse ⟨Tryd.f9, by kernel_rfl, by decide +kernel, by kernel_rfl⟩ (fun ⟨p, t⟩ => by first | rfl | simp [c_parse, rrRef, rTx, rsl, rss, rnewI, rnewE, rstab, rplaces, ri, rb, rib, rR, riib3, rnum, rby, rParse, badR, Sta.fresh]) fun ⟨p, t⟩ hp => ?_
  refine acalls_le s_parse_sound (fn := Tryd.f9) (a := a_parse) (nargs := 2) (tbl := [(4, [2, 4, 7, 8, 9, 22, 23, 24, 1000009000000900009001]), (9, [2, 4, 7, 8, 9, 22, 23, 24, 34, 1000009000000900009001])]) (by kernel_rfl) (by kernel_rfl) rfl (m := 400) ?_
  show VC.holds _ _ _ (a_parse.start s_parse 400 [ap p, at_ t])
  rw [t_parse]
  try simp only [asRows_sl, asInt_int, asBool_bool, asStr_str, listOf_rowsOn, List.drop_zero, Prg.eta, Sta.eta, rowsOn_length, getD_drop, Nat.reduceAdd, rd_int, rd_PMem_name, rd_PMem_secret, rd_PMem_n, rd_PLabel_name, rd_PLabel_at_, rd_Ins_kind, rd_Ins_op, rd_Ins_d, rd_Ins_aR, rd_Ins_aN, rd_Ins_bR, rd_Ins_bN, rd_Ins_name, rd_Ins_target, rd_Ent_pc, rd_Ent_val, rd_Ent_addr, rd_Ent_fro, rd_Ent_next, rd_Ent_done, rd_Ent_known, rd_Ent_fault, rd_Place_reg, rd_Place_n, rd_Place_secret, rd_Obs_kind, rd_Obs_at_, rd_Dir_kind, rd_Dir_n, rd_Rn_v, rd_Tok_kind, rd_Tok_text, rd_Tok_n, rd_Tok_at_]
  try simp only [c_parse] at hp
  obtain ⟨hm, hw1, hw2, ht⟩ := hp
  have hm : MemsF p.mems := hm
  have hw1 : 1 ≤ p.w := hw1
  have hw2 : p.w ≤ 2 := hw2
  have hrl := runesS_len t
  have ht : t.size ≤ 1000000 := ht
  have hsz : sizeS p.w ≤ 10 := by
    have : p.w = 1 ∨ p.w = 2 := by omega
    rcases this with h | h <;> (rw [h]; decide)
  refine ⟨PreOk.mk ht rfl, all_holds fun y hy => ⟨PreOk.mk hm rfl, all_holds fun z hz => ?_⟩⟩
  replace hy : y = runesS t := hy
  replace hz : z = namesS p := hz
  subst hy hz
  have hl := names_len hm
  have h6 := places_few hm
  have e : c_parse.ans (p, t) = rParse (endP p (readS p t)) := rfl
  rw [e]
  exact l_pa p hm ⟨hw1, hw2⟩ _ (by omega) _ (by omega) (fun t ht => by have := names_size hm t ht; omega) _ (0, 0, _, _) ⟨by simp, by simp, by simp, by simp, [], OnL.nil, rfl, joinP_nil hsz _ _ _⟩
noncomputable def v_parse : Prg × ByteArray → Sta × Int × Bool := fun x => parseS x.1 x.2
noncomputable def sh_parse : Sta × Int × Bool → RR := fun y => rParse y
theorem e_parse (x : Prg × ByteArray) : sh_parse (v_parse x) = c_parse.ans x := rfl
end Go.Proofs.YtmmlolampgnamaaDoor.Ax
end

section
/- What the statements of layer 25 need beside: Lines, awake. -/
namespace Go.Proofs.YtmmlolampgnamaaDoor.Ax
open Go.RowKit
set_option linter.unusedVariables false
set_option linter.unusedSimpArgs false
def strOf : List D → Option ByteArray
  | [.str s] => some s
  | _ => none
theorem strOf_some {r : List D} {s : ByteArray} (h : strOf r = some s) : r = [.str s] := by
  unfold strOf at h
  split at h
  · cases h; rfl
  · cases h
theorem strs_some : ∀ {rows : List (List D)} {l : List ByteArray}, mapO strOf rows = some l → rows = rowsOn (l.map Tx.mk)
  | [], l, h => by simp only [mapO, Option.some.injEq] at h; subst h; rfl
  | r :: rs, l, h => by
    simp only [mapO] at h
    split at h
    · rename_i x xs h1 h2
      simp only [Option.some.injEq] at h; subst h
      rw [strOf_some h1, strs_some h2]; rfl
    · cases h
def extS (f : FuncId) (xs : List A) : Option RR := match f, xs with
  | 22, [.c (.int .i64 n)] => if 0 ≤ n ∧ n ≤ 9 then some (.c (.d (.str (digS n)))) else none
  | 24, [.c (.sl rows), .c (.str sep)] => match mapO strOf rows with
    | some l => if l.length ≤ 1000 ∧ (∀ t ∈ l.map Tx.mk, t.v.size ≤ 1000) ∧ sep = chB 32 then some (.c (.d (.str (joinT (l.map Tx.mk))))) else none
    | none => none
  | 30, [.c (.sl rows)] => if rows.length ≤ 1000000000 then some (.c (.d (.sl rows))) else none
  | _, _ => none
theorem extS_sound : ∀ g xs r, extS g xs = some r → ACalls Tryd.prog g xs r ∧ Enters Tryd.prog g := by
  intro g xs r h
  unfold extS at h
  split at h
  · split at h
    · rename_i hc
      simp only [Option.some.injEq] at h; subst h
      exact ⟨itoa_calls hc, ⟨Tryd.f22, by kernel_rfl, by decide +kernel, by kernel_rfl⟩⟩
    · cases h
  · split at h
    · rename_i l hl
      split at h
      · rename_i hc
        simp only [Option.some.injEq] at h; subst h
        obtain ⟨h1, h2, rfl⟩ := hc
        rw [strs_some hl]
        exact ⟨join_calls (by rw [List.length_map]; exact h1) h2, ⟨Tryd.f24, by kernel_rfl, by decide +kernel, by kernel_rfl⟩⟩
      · cases h
    · cases h
  · split at h
    · rename_i hc
      simp only [Option.some.injEq] at h; subst h
      exact ⟨clip_calls hc, ⟨Tryd.f30, by kernel_rfl, by decide +kernel, by kernel_rfl⟩⟩
    · cases h
  · cases h
theorem awake25 : ACalls Tryd.prog 10 [] (.c (.d (.bool true))) ∧ Enters Tryd.prog 10 :=
  axG_sound (Z0_ok _) extS_sound (by intro g sh h; cases h) (n := 400) 12 (by kernel_rfl)
def c_awake25 : FT Unit := ⟨10, fun _ => [], rd0, fun _ => True, fun _ => rb true, false, fun _ => rfl⟩
theorem c_awake25_good : c_awake25.fe.Good Tryd.prog := FT.good c_awake25 awake25.2 (fun _ => rfl) fun _ _ => awake25.1
end Go.Proofs.YtmmlolampgnamaaDoor.Ax
end

section
/- What is told, told back: states that were begun. -/
namespace Go.Proofs.YtmmlolampgnamaaDoor.Ax
open Go.RowKit
set_option linter.unusedVariables false
set_option linter.unusedSimpArgs false
theorem fill_mask (w : Int) : ∀ (q : List Place) (l : List Int) (s : Sta), fillS w q (l.map (maskS w)) s = fillS w q l s
  | [], [], _ => rfl
  | [], _ :: _, _ => rfl
  | _ :: _, [], _ => rfl
  | x :: q, n :: l, s => by
    show fillS w q (l.map (maskS w)) (putPlace s x (maskS w (maskS w n))) = fillS w q l (putPlace s x (maskS w n))
    rw [maskS_mask, fill_mask w q l]
/-- A state that was begun: what it holds; begun with that it is the same. -/
theorem begun_vals {p : Prg} (hm : Mems p.mems) (L : List Int) (hL : L.length = (placesS p).length) : valsS p (startS p L).1 = L.map (maskS p.w) ∧ startS p (valsS p (startS p L).1) = ((startS p L).1, true) := by
  obtain ⟨s, a0, a1, a2, a3, a4, a5⟩ := start_hold p hm L hL
  have es : (startS p L).1 = s := by rw [a0]
  have hv : valsS p s = L.map (maskS p.w) := by
    apply List.ext_getElem
    · rw [valsS, List.length_map, List.length_map, hL]
    · intro i h1 h2
      rw [valsS, List.length_map] at h1
      have hp := places_ok p hm _ (List.getElem_mem h1)
      simp only [valsS, List.getElem_map]
      have := a4 i h1
      have e2 : rd L (i : Int) = L[i]'(by omega) := by
        unfold rd
        rw [Int.toNat_natCast, List.getD_eq_getElem?_getD, List.getElem?_eq_getElem (by omega)]; rfl
      rw [e2] at this
      rw [← this]
      unfold heldS holdP
      cases hr : (placesS p)[i].reg with
      | true => rfl
      | false =>
        have := hp.2 hr
        simp only [Bool.false_eq_true, if_false]
        rw [if_pos (by omega)]
  rw [es, hv]
  refine ⟨rfl, ?_⟩
  have e : startS p (L.map (maskS p.w)) = startS p L := by
    unfold startS
    rw [List.length_map, fill_mask]
  rw [e, a0]
structure Begun (p : Prg) (s : Sta) : Prop where
  shape : MemsF p.mems
  w : 1 ≤ p.w ∧ p.w ≤ 2
  vals : ∀ v ∈ valsS p s, 0 ≤ v ∧ v < sizeS p.w
  back : startS p (valsS p s) = (s, true)
theorem size_small {w : Int} (h : 1 ≤ w ∧ w ≤ 2) : 2 ≤ sizeS w ∧ sizeS w ≤ 4 := by
  have : w = 1 ∨ w = 2 := by omega
  rcases this with h | h <;> (rw [h]; decide)
theorem mask_size {w : Int} (h : 1 ≤ w ∧ w ≤ 2) (n : Int) : 0 ≤ maskS w n ∧ maskS w n < sizeS w := by
  have hw : okW w := ⟨h.1, by omega⟩
  have := maskS_ok hw n
  unfold sizeS
  rw [if_pos hw]
  exact this
theorem begun_of {p : Prg} (hp : WFM p) (L : List Int) (hL : L.length = (placesS p).length) : Begun p (startS p L).1 := by
  obtain ⟨h1, h2⟩ := begun_vals hp.mems' L hL
  refine ⟨hp.mems.shape, hp.regs.hw, ?_, h2⟩
  rw [h1]
  intro v hv
  obtain ⟨n, _, rfl⟩ := List.mem_map.1 hv
  exact mask_size hp.regs.hw n
theorem begun_states {p : Prg} (hp : WFM p) (l : List Int) (how : Int) : Begun p (statesS p l how).1 ∧ Begun p (statesS p l how).2 := ⟨begun_of hp _ (told_len _ _ _), begun_of hp _ (told_len _ _ _)⟩
theorem Begun.nine {p : Prg} {s : Sta} (h : Begun p s) : ∀ v ∈ valsS p s, 0 ≤ v ∧ v ≤ 9 := fun v hv => by
  have := h.vals v hv
  have := size_small h.w
  omega
theorem Begun.runes {p : Prg} {s : Sta} (h : Begun p s) : isAsc (showS p s).data.toList = true ∧ ascR (showS p s).data.toList = renderR (wantsS (namesS p)) (valsS p s) ∧ runesS (showS p s) = renderR (wantsS (namesS p)) (valsS p s) := show_runes h.shape h.nine
theorem wants_blS {p : Prg} (h : MemsF p.mems) : Bls (wantsS (namesS p)).tail := by
  rw [wantsS_L]
  exact wants_bl _ (names_asc h)
theorem vals_len {p : Prg} (h : MemsF p.mems) (s : Sta) : (wantsS (namesS p)).length = (valsS p s).length := by
  rw [wants_len, names_len h, valsS, List.length_map]
/-- What is told is read as it was. -/
theorem Begun.parse {p : Prg} {s : Sta} (h : Begun p s) : readS p (showS p s) = (valsS p s, 0, true) ∧ parseS p (showS p s) = (s, 0, true) := by
  have e : readS p (showS p s) = (valsS p s, 0, true) := by
    unfold readS
    rw [h.runes.2.2]
    exact parse_render _ (by have := size_small h.w; omega) _ _ _ (vals_len h.shape s) (wants_blS h.shape) h.vals
  refine ⟨e, ?_⟩
  unfold parseS
  rw [e, if_pos rfl, h.back]
theorem Begun.inj {p : Prg} {a b : Sta} (ha : Begun p a) (hb : Begun p b) (h : showS p a = showS p b) : a = b := by
  have h1 := ha.parse.2
  have h2 := hb.parse.2
  rw [h, h2] at h1
  exact (congrArg Prod.fst h1).symm
/-- How long the text is; no rune of it is a line's end. -/
theorem render_bound : ∀ (ws : List (List Rn)) (vs : List Int) (b : Nat), (∀ w ∈ ws, w.length ≤ b) → (renderR ws vs).length ≤ (b + 1) * ws.length
  | [], vs, b, _ => by cases vs <;> simp [renderR]
  | w :: ws, [], b, _ => by simp [renderR]
  | w :: ws, v :: vs, b, h => by
    have h1 := h w (by simp)
    have ih := render_bound ws vs b fun x hx => h x (List.mem_cons_of_mem _ hx)
    simp only [renderR, List.length_append, List.length_cons, Nat.mul_add, Nat.mul_one]
    omega
theorem render_all (P : Rn → Prop) : ∀ (ws : List (List Rn)) (vs : List Int), (∀ w ∈ ws, ∀ c ∈ w, P c) → (∀ v ∈ vs, P (d48 v)) → ∀ c ∈ renderR ws vs, P c
  | [], vs, _, _, c, hc => by cases vs <;> simp [renderR] at hc
  | w :: ws, [], _, _, c, hc => by simp [renderR] at hc
  | w :: ws, v :: vs, h, hv, c, hc => by
    simp only [renderR, List.mem_append, List.mem_cons] at hc
    rcases hc with hc | hc | hc
    · exact h w (by simp) c hc
    · subst hc; exact hv v (by simp)
    · exact render_all P ws vs (fun x hx => h x (List.mem_cons_of_mem _ hx)) (fun x hx => hv x (List.mem_cons_of_mem _ hx)) c hc
/-- What a want is made of. -/
def wantOk (w : List Rn) : Bool := decide (w.length ≤ 5) && w.all fun c => decide (32 ≤ c.v) && decide (c.v < 128)
theorem wants_ok {p : Prg} (h : MemsF p.mems) : ∀ w ∈ wantsS (namesS p), wantOk w = true := by
  have hn : ∀ t ∈ namesS p, wantOk (⟨32⟩ :: runesS t.v) = true := by
    intro t ht
    unfold namesS regNames at ht
    have hr : ∀ n r : Int, (r = 0 ∨ r = 1 ∨ r = 2 ∨ r = 3) → t ∈ regName n r → wantOk (⟨32⟩ :: runesS t.v) = true := fun n r hr hm => by
      unfold regName at hm
      split at hm
      · cases hm
      · simp only [List.mem_singleton] at hm
        subst hm
        rcases hr with rfl | rfl | rfl | rfl
        · show wantOk (⟨32⟩ :: runesS (nameR 0)) = true; decide +kernel
        · show wantOk (⟨32⟩ :: runesS (nameR 1)) = true; decide +kernel
        · show wantOk (⟨32⟩ :: runesS (nameR 2)) = true; decide +kernel
        · show wantOk (⟨32⟩ :: runesS (nameR 3)) = true; decide +kernel
    simp only [List.mem_append] at ht
    rcases ht with (((ht | ht) | ht) | ht) | ht
    · exact hr _ _ (by simp) ht
    · exact hr _ _ (by simp) ht
    · exact hr _ _ (by simp) ht
    · exact hr _ _ (by simp) ht
    · have : ∀ t ∈ memNames p.mems, wantOk (⟨32⟩ :: runesS t.v) = true := by
        rcases h with h | h | h | h | h <;> (rw [h]; decide +kernel)
      exact this t ht
  intro w hw
  rw [wantsS_L] at hw
  have hna := names_asc h
  cases hN : namesS p with
  | nil => rw [hN] at hw; cases hw
  | cons t ts =>
    rw [hN] at hw hn hna
    simp only [wantsL, List.mem_cons, List.mem_map] at hw
    rcases hw with rfl | ⟨x, hx, rfl⟩
    · have := hn t (by simp)
      unfold wantOk at this ⊢
      simp only [List.length_cons, List.all_cons, Bool.and_eq_true, decide_eq_true_eq] at this ⊢
      exact ⟨by omega, this.2.2⟩
    · rw [ascT_bl (hna x (List.mem_cons_of_mem _ hx))]
      exact hn x (List.mem_cons_of_mem _ hx)
theorem Begun.text {p : Prg} {s : Sta} (h : Begun p s) : (showS p s).size ≤ 36 ∧ ∀ b ∈ (showS p s).data.toList, b ≠ 10 := by
  have hr := h.runes
  have hw := wants_ok h.shape
  have hl : (showS p s).size = (renderR (wantsS (namesS p)) (valsS p s)).length := by
    rw [← hr.2.1, ascR, List.length_map]
    simp
  refine ⟨?_, ?_⟩
  · have h1 := render_bound (wantsS (namesS p)) (valsS p s) 5 fun w hw' => by
      have := hw w hw'
      unfold wantOk at this
      simp only [Bool.and_eq_true, decide_eq_true_eq] at this
      exact this.1
    have h2 := places_few h.shape
    have h3 := wants_len (namesS p)
    have h4 := names_len h.shape
    omega
  · intro b hb e
    subst e
    have hm : (⟨10⟩ : Rn) ∈ renderR (wantsS (namesS p)) (valsS p s) := by
      rw [← hr.2.1]
      exact List.mem_map.2 ⟨10, hb, rfl⟩
    have := render_all (fun c => 32 ≤ c.v) (wantsS (namesS p)) (valsS p s) (fun w hw' c hc => by
      have := hw w hw'
      unfold wantOk at this
      simp only [Bool.and_eq_true, List.all_eq_true, decide_eq_true_eq] at this
      exact (this.2 c hc).1) (fun v hv => by have := h.nine v hv; show 32 ≤ 48 + v; omega) _ hm
    revert this
    decide
end Go.Proofs.YtmmlolampgnamaaDoor.Ax
end

section
/- Runes and numbers, by the document (the first part of L3). -/
namespace Go.Proofs.YtmmlolampgnamaaDoor.Ax
open Go.RowKit
set_option linter.unusedVariables false
set_option linter.unusedSimpArgs false
def c_rSigns : FT (ByteArray × Unit) := ⟨34, fun x => [at_ x.1], rdT1, fun x => x.1.size ≤ 1000000, fun x => rR (runesS x.1), true, fun x => by simp [at_, rdT1]⟩
noncomputable def a_rSigns : FnA := (fnA Tryd.prog Tryd.f34 1 [(3, [3, 7, 1000003000000900001001])]).getD ⟨0, .skip, [], []⟩
def s_rSigns : Sp := spT []
theorem s_rSigns_sound : s_rSigns.sound Tryd.prog := spT_sound fun e he => by cases he
set_option maxRecDepth 100000 in
theorem t_rSigns (s : ByteArray) : a_rSigns.start s_rSigns 400 [at_ s] =
(FnA.at_ a_rSigns 0 (F_run s (0 : Nat) (0 : Nat) [])) := by kernel_rfl
set_option maxRecDepth 100000 in
theorem t_rSig0 (s : ByteArray) (i n : Nat) (R : List (List D)) : a_rSigns.round s_rSigns 400 0 (F_run s i n R) =
(VC.br (decide (i < ByteArray.size s))
 (VC.need ((List.all [[D.int IntKind.i32 (↑(Utf8.decode s i).fst : Int)]] fun r ↦ List.length r == (1 : Nat)) = true ∧ (List.all R fun r ↦ List.length r == (1 : Nat)) = true ∧ (List.length R + List.length [[D.int IntKind.i32 (↑(Utf8.decode s i).fst : Int)]] + (100 : Nat)) * (5 : Nat) ≤ (70368744177664 : Nat))
 (FnA.at_ a_rSigns 0 (F_run s (i + (Utf8.decode s i).snd) (List.length R + List.length [[D.int IntKind.i32 (↑(Utf8.decode s i).fst : Int)]]) (R ++ [[D.int IntKind.i32 (↑(Utf8.decode s i).fst : Int)]]))))
 (VC.ret (some (RR.c (Rc.new (1 : Nat) R))))) := by kernel_rfl
theorem l_rSig0 (s : ByteArray) (fin : List Rn) (hf : fin.length ≤ 1000000) : ∀ i_ : Nat × Nat × List (List D), (fun (v : Nat × Nat × List (List D)) => ∃ acc : List Rn, OnL v.2.2 v.2.1 acc ∧ acc ++ runesAt s v.1 = fin) i_ → (a_rSigns.at_ 0 ((fun (v : Nat × Nat × List (List D)) => F_run s v.1 v.2.1 v.2.2) i_)).holds s_rSigns.cx a_rSigns.rs (fun r => r.data.le (rR fin)) := by
  refine loop_rule (a := a_rSigns) (j := 0) (m := 400) s_rSigns_sound (fun (v : Nat × Nat × List (List D)) => F_run s v.1 v.2.1 v.2.2) (fun (v : Nat × Nat × List (List D)) => ∃ acc : List Rn, OnL v.2.2 v.2.1 acc ∧ acc ++ runesAt s v.1 = fin) (fun (v : Nat × Nat × List (List D)) => s.size - v.1) ?_
  rintro ⟨i, n, R⟩ h_inv ih
  try dsimp only at h_inv
  replace ih := fun (v0 : Nat) (v1 : Nat) (v2 : List (List D)) => ih (v0, v1, v2)
  try dsimp only at ih
  show VC.holds _ _ _ (a_rSigns.round s_rSigns 400 0 (F_run s i n R))
  rw [t_rSig0]
  try simp only [asRows_sl, asInt_int, asBool_bool, asStr_str, listOf_rowsOn, List.drop_zero, Prg.eta, Sta.eta, rowsOn_length, getD_drop, Nat.reduceAdd, rd_int, rd_PMem_name, rd_PMem_secret, rd_PMem_n, rd_PLabel_name, rd_PLabel_at_, rd_Ins_kind, rd_Ins_op, rd_Ins_d, rd_Ins_aR, rd_Ins_aN, rd_Ins_bR, rd_Ins_bN, rd_Ins_name, rd_Ins_target, rd_Ent_pc, rd_Ent_val, rd_Ent_addr, rd_Ent_fro, rd_Ent_next, rd_Ent_done, rd_Ent_known, rd_Ent_fault, rd_Place_reg, rd_Place_n, rd_Place_secret, rd_Obs_kind, rd_Obs_at_, rd_Dir_kind, rd_Dir_n, rd_Rn_v, rd_Tok_kind, rd_Tok_text, rd_Tok_n, rd_Tok_at_]
  obtain ⟨acc, h1, h2⟩ := h_inv
  have hl : acc.length ≤ fin.length := by rw [← h2, List.length_append]; omega
  have hp := decode_pos s i
  refine br_dec (fun hd => ?_) (fun hd => ret_leD ?_)
  · refine ⟨app_ok h1 rfl rfl (by simp only [List.length_cons, List.length_nil]; omega), ih _ _ _ ⟨acc ++ [⟨((Utf8.decode s i).1 : Int)⟩], h1.snoc (⟨((Utf8.decode s i).1 : Int)⟩ : Rn), ?_⟩ (by omega)⟩
    rw [List.append_assoc, ← h2, runesAt_lt s i hd]; rfl
  · rw [runesAt_ge s i (by omega), List.append_nil] at h2
    rw [h1.1, h2]; exact RR.le_refl _
theorem c_rSigns_good : c_rSigns.fe.Good Tryd.prog := by
  refine FT.good c_rSigns ⟨Tryd.f34, by kernel_rfl, by decide +kernel, by kernel_rfl⟩ (fun ⟨s, u⟩ => by first | rfl | simp [c_rSigns, rrRef, rR, riib3, ri, rb, rib, Sta.fresh]) fun ⟨s, u⟩ hp => ?_
  refine acalls_leD s_rSigns_sound (fn := Tryd.f34) (a := a_rSigns) (nargs := 1) (tbl := [(3, [3, 7, 1000003000000900001001])]) (by kernel_rfl) (by kernel_rfl) rfl (m := 400) ?_
  show VC.holds _ _ _ (a_rSigns.start s_rSigns 400 [at_ s])
  rw [t_rSigns]
  try simp only [asRows_sl, asInt_int, asBool_bool, asStr_str, listOf_rowsOn, List.drop_zero, Prg.eta, Sta.eta, rowsOn_length, getD_drop, Nat.reduceAdd, rd_int, rd_PMem_name, rd_PMem_secret, rd_PMem_n, rd_PLabel_name, rd_PLabel_at_, rd_Ins_kind, rd_Ins_op, rd_Ins_d, rd_Ins_aR, rd_Ins_aN, rd_Ins_bR, rd_Ins_bN, rd_Ins_name, rd_Ins_target, rd_Ent_pc, rd_Ent_val, rd_Ent_addr, rd_Ent_fro, rd_Ent_next, rd_Ent_done, rd_Ent_known, rd_Ent_fault, rd_Place_reg, rd_Place_n, rd_Place_secret, rd_Obs_kind, rd_Obs_at_, rd_Dir_kind, rd_Dir_n, rd_Rn_v, rd_Tok_kind, rd_Tok_text, rd_Tok_n, rd_Tok_at_]
  try simp only [c_rSigns] at hp
  have hs : s.size ≤ 1000000 := hp
  have := runesS_len s
  exact l_rSig0 s (runesS s) (by omega) (0, _, _) ⟨[], OnL.nil, rfl⟩
noncomputable def v_rSigns : ByteArray × Unit → List Rn := fun x => runesS x.1
noncomputable def sh_rSigns : List Rn → RR := fun l => rR l
theorem e_rSigns (x : ByteArray × Unit) : sh_rSigns (v_rSigns x) = c_rSigns.ans x := rfl
def c_rLet : FT Int := ⟨50, fun x => [ar x], rdR1, fun _ => True, fun x => rb (isLet x), false, fun x => rfl⟩
noncomputable def a_rLet : FnA := (fnA Tryd.prog Tryd.f50 1 []).getD ⟨0, .skip, [], []⟩
def s_rLet : Sp := spT []
theorem s_rLet_sound : s_rLet.sound Tryd.prog := spT_sound fun e he => by cases he
set_option maxRecDepth 100000 in
theorem t_rLet (n : Int) : a_rLet.start s_rLet 400 [ar n] =
(VC.br (decide ((97 : Int) ≤ n))
 (VC.ret (some (RR.c (Rc.d (D.bool (decide (n ≤ (122 : Int))))))))
 (VC.ret (some (RR.c (Rc.d (D.bool false)))))) := by kernel_rfl
theorem c_rLet_good : c_rLet.fe.Good Tryd.prog := by
  refine FT.good c_rLet ⟨Tryd.f50, by kernel_rfl, by decide +kernel, by kernel_rfl⟩ (fun n => by first | rfl | simp [c_rLet, rrRef, rR, riib3, ri, rb, rib, Sta.fresh]) fun n hp => ?_
  refine acalls_le s_rLet_sound (fn := Tryd.f50) (a := a_rLet) (nargs := 1) (tbl := []) (by kernel_rfl) (by kernel_rfl) rfl (m := 400) ?_
  show VC.holds _ _ _ (a_rLet.start s_rLet 400 [ar n])
  rw [t_rLet]
  try simp only [asRows_sl, asInt_int, asBool_bool, asStr_str, listOf_rowsOn, List.drop_zero, Prg.eta, Sta.eta, rowsOn_length, getD_drop, Nat.reduceAdd, rd_int, rd_PMem_name, rd_PMem_secret, rd_PMem_n, rd_PLabel_name, rd_PLabel_at_, rd_Ins_kind, rd_Ins_op, rd_Ins_d, rd_Ins_aR, rd_Ins_aN, rd_Ins_bR, rd_Ins_bN, rd_Ins_name, rd_Ins_target, rd_Ent_pc, rd_Ent_val, rd_Ent_addr, rd_Ent_fro, rd_Ent_next, rd_Ent_done, rd_Ent_known, rd_Ent_fault, rd_Place_reg, rd_Place_n, rd_Place_secret, rd_Obs_kind, rd_Obs_at_, rd_Dir_kind, rd_Dir_n, rd_Rn_v, rd_Tok_kind, rd_Tok_text, rd_Tok_n, rd_Tok_at_]
  try simp only [c_rLet] at hp
  have e : c_rLet.ans n = rb (isLet n) := rfl
  rw [e]
  unfold isLet
  repeat' first
    | refine br_not ?_
    | refine br_dec (fun _ => ?_) (fun _ => ?_)
    | refine br_beq (fun _ => ?_) (fun _ => ?_)
    | refine br_bne (fun _ => ?_) (fun _ => ?_)
    | refine br_holds (fun _ => ?_) (fun _ => ?_)
    | refine ⟨PreOk.mk ?_ rfl, ?_⟩
    | refine ⟨idx_ok _ _ _ rfl (by omega) (by omega), ?_⟩
    | refine ⟨okSh_ok _ _ _ (fun _ => rfl) (by omega) (by omega), ?_⟩
    | refine ⟨okSh_okD _ _ _ _ (fun _ => rfl) (by omega) (by omega), ?_⟩
    | refine ⟨aload_ok _ _ rfl (fun _ => rfl) (by omega) (by omega), ?_⟩
    | refine ⟨aload_okD _ _ _ rfl (fun _ => rfl) (by omega) (by omega), ?_⟩
    | refine ⟨astore_ok (by assumption) rfl (by omega) (by omega) (by decide), ?_⟩
    | refine ⟨app_ok (by assumption) rfl rfl (by simp only [List.length_cons, List.length_nil]; omega), ?_⟩
    | refine need_holds ?_ fun _ => ?_
    | refine all_holds fun y hy => ?_
    | refine ret_le ?_
  · rename_i h; rw [decide_eq_true h, Bool.true_and]; exact RR.le_refl _
  · rename_i h; rw [decide_eq_false h, Bool.false_and]; exact RR.le_refl _
noncomputable def v_rLet : Int → Bool := fun x => isLet x
noncomputable def sh_rLet : Bool → RR := fun b => rb b
theorem e_rLet (x : Int) : sh_rLet (v_rLet x) = c_rLet.ans x := rfl
def c_rDig : FT Int := ⟨49, fun x => [ar x], rdR1, fun _ => True, fun x => rb (isDig x), false, fun x => rfl⟩
noncomputable def a_rDig : FnA := (fnA Tryd.prog Tryd.f49 1 []).getD ⟨0, .skip, [], []⟩
def s_rDig : Sp := spT []
theorem s_rDig_sound : s_rDig.sound Tryd.prog := spT_sound fun e he => by cases he
set_option maxRecDepth 100000 in
theorem t_rDig (n : Int) : a_rDig.start s_rDig 400 [ar n] =
(VC.br (decide ((48 : Int) ≤ n))
 (VC.ret (some (RR.c (Rc.d (D.bool (decide (n ≤ (57 : Int))))))))
 (VC.ret (some (RR.c (Rc.d (D.bool false)))))) := by kernel_rfl
theorem c_rDig_good : c_rDig.fe.Good Tryd.prog := by
  refine FT.good c_rDig ⟨Tryd.f49, by kernel_rfl, by decide +kernel, by kernel_rfl⟩ (fun n => by first | rfl | simp [c_rDig, rrRef, rR, riib3, ri, rb, rib, Sta.fresh]) fun n hp => ?_
  refine acalls_le s_rDig_sound (fn := Tryd.f49) (a := a_rDig) (nargs := 1) (tbl := []) (by kernel_rfl) (by kernel_rfl) rfl (m := 400) ?_
  show VC.holds _ _ _ (a_rDig.start s_rDig 400 [ar n])
  rw [t_rDig]
  try simp only [asRows_sl, asInt_int, asBool_bool, asStr_str, listOf_rowsOn, List.drop_zero, Prg.eta, Sta.eta, rowsOn_length, getD_drop, Nat.reduceAdd, rd_int, rd_PMem_name, rd_PMem_secret, rd_PMem_n, rd_PLabel_name, rd_PLabel_at_, rd_Ins_kind, rd_Ins_op, rd_Ins_d, rd_Ins_aR, rd_Ins_aN, rd_Ins_bR, rd_Ins_bN, rd_Ins_name, rd_Ins_target, rd_Ent_pc, rd_Ent_val, rd_Ent_addr, rd_Ent_fro, rd_Ent_next, rd_Ent_done, rd_Ent_known, rd_Ent_fault, rd_Place_reg, rd_Place_n, rd_Place_secret, rd_Obs_kind, rd_Obs_at_, rd_Dir_kind, rd_Dir_n, rd_Rn_v, rd_Tok_kind, rd_Tok_text, rd_Tok_n, rd_Tok_at_]
  try simp only [c_rDig] at hp
  have e : c_rDig.ans n = rb (isDig n) := rfl
  rw [e]
  unfold isDig
  repeat' first
    | refine br_not ?_
    | refine br_dec (fun _ => ?_) (fun _ => ?_)
    | refine br_beq (fun _ => ?_) (fun _ => ?_)
    | refine br_bne (fun _ => ?_) (fun _ => ?_)
    | refine br_holds (fun _ => ?_) (fun _ => ?_)
    | refine ⟨PreOk.mk ?_ rfl, ?_⟩
    | refine ⟨idx_ok _ _ _ rfl (by omega) (by omega), ?_⟩
    | refine ⟨okSh_ok _ _ _ (fun _ => rfl) (by omega) (by omega), ?_⟩
    | refine ⟨okSh_okD _ _ _ _ (fun _ => rfl) (by omega) (by omega), ?_⟩
    | refine ⟨aload_ok _ _ rfl (fun _ => rfl) (by omega) (by omega), ?_⟩
    | refine ⟨aload_okD _ _ _ rfl (fun _ => rfl) (by omega) (by omega), ?_⟩
    | refine ⟨astore_ok (by assumption) rfl (by omega) (by omega) (by decide), ?_⟩
    | refine ⟨app_ok (by assumption) rfl rfl (by simp only [List.length_cons, List.length_nil]; omega), ?_⟩
    | refine need_holds ?_ fun _ => ?_
    | refine all_holds fun y hy => ?_
    | refine ret_le ?_
  · rename_i h; rw [decide_eq_true h, Bool.true_and]; exact RR.le_refl _
  · rename_i h; rw [decide_eq_false h, Bool.false_and]; exact RR.le_refl _
noncomputable def v_rDig : Int → Bool := fun x => isDig x
noncomputable def sh_rDig : Bool → RR := fun b => rb b
theorem e_rDig (x : Int) : sh_rDig (v_rDig x) = c_rDig.ans x := rfl
def numR (l : List Rn) (a : Int) (most : Nat) : Int × Int × Bool := match numL (l.drop a.toNat) most with
  | none => (a, 0, false)
  | some (n, k) => if aloneL (l.drop (a + k).toNat) = true then (a + k, n, true) else (a + k, 0, false)
def c_rNum : FT (List Rn × Int × Nat) := ⟨35, fun x => [aR x.1, ai x.2.1, ai x.2.2], rdRI2, fun x => x.1.length ≤ 1000000 ∧ 0 ≤ x.2.1 ∧ x.2.1 ≤ 1000000 ∧ 1 ≤ x.2.2 ∧ x.2.2 ≤ 9, fun x => riib3 (numR x.1 x.2.1 x.2.2), false, fun x => by simp [aR, ai, rdRI2]⟩
noncomputable def a_rNum : FnA := (fnA Tryd.prog Tryd.f35 3 [(2, [0, 1, 2, 9, 10]), (1000000012, [0, 1, 9, 10])]).getD ⟨0, .skip, [], []⟩
noncomputable def s_rNum : Sp := spT [c_rDig.gfe v_rDig sh_rDig e_rDig, c_rLet.gfe v_rLet sh_rLet e_rLet]
theorem s_rNum_sound : s_rNum.sound Tryd.prog := spT_sound fun e he => by
  simp only [List.mem_cons, List.not_mem_nil, or_false] at he
  rcases he with rfl | rfl
  · exact FT.gfe_good c_rDig_good
  · exact FT.gfe_good c_rLet_good
def F_rnm (l : List Rn) (m : Nat) (i k n : Int) : St := ⟨mkS 80 [(0, vr (rowsOn l)), (1, vi i), (2, vi m), (9, vi k), (10, vi n)], []⟩
set_option maxRecDepth 100000 in
theorem t_rNum (l : List Rn) (i : Int) (m : Nat) : a_rNum.start s_rNum 400 [aR l, ai i, ai m] =
(FnA.at_ a_rNum 0 (F_rnm l m i i (0 : Int))) := by kernel_rfl
def F_rnx (l : List Rn) (i k n : Int) : St := ⟨mkS 80 [(0, vr (rowsOn l)), (1, vi i), (9, vi k), (10, vi n)], []⟩
set_option maxRecDepth 100000 in
theorem t_rNum0 (l : List Rn) (m : Nat) (i k n : Int) : a_rNum.round s_rNum 400 0 (F_rnm l m i k n) =
(VC.br (decide (k < (↑(List.length (rowsOn l)) : Int)))
 (VC.need ((0 : Int) ≤ k ∧ k < (↑(List.length (rowsOn l)) : Int) ∧ List.length (rowAt (rowsOn l) (Int.toNat k)) = (1 : Nat))
 (VC.need (okSh [Kd.int IntKind.i32] (rowAt (rowsOn l) (Int.toNat k)))
 (VC.need (PreOk c_rDig (asInt (List.getD (rowAt (rowsOn l) (Int.toNat k)) (0 : Nat) D.nilp)) [A.c (D.int IntKind.i32 (asInt (List.getD (rowAt (rowsOn l) (Int.toNat k)) (0 : Nat) D.nilp)))])
 (VC.all (v_rDig (asInt (List.getD (rowAt (rowsOn l) (Int.toNat k)) (0 : Nat) D.nilp))) fun (y5 : Bool) =>
 (VC.br (y5)
  (VC.br (decide (IntKind.wrap IntKind.i64 (k - i) < (↑m : Int)))
   (VC.br (decide (i < k))
    (VC.need ((0 : Int) ≤ i ∧ i < (↑(List.length (rowsOn l)) : Int) ∧ List.length (rowAt (rowsOn l) (Int.toNat i)) = (1 : Nat))
    (VC.need (okSh [Kd.int IntKind.i32] (rowAt (rowsOn l) (Int.toNat i)))
    (VC.br (!asInt (List.getD (rowAt (rowsOn l) (Int.toNat i)) (0 : Nat) D.nilp) == (48 : Int))
     (VC.need ((0 : Int) ≤ k ∧ k < (↑(List.length (rowsOn l)) : Int) ∧ List.length (rowAt (rowsOn l) (Int.toNat k)) = (1 : Nat))
     (VC.need (okSh [Kd.int IntKind.i32] (rowAt (rowsOn l) (Int.toNat k)))
     (FnA.at_ a_rNum 0 (F_rnm l m i (IntKind.wrap IntKind.i64 (k + (1 : Int))) (IntKind.wrap IntKind.i64 (IntKind.wrap IntKind.i64 ((10 : Int) * n) + IntKind.wrap IntKind.i64 (IntKind.wrap IntKind.i32 (asInt (List.getD (rowAt (rowsOn l) (Int.toNat k)) (0 : Nat) D.nilp) - (48 : Int)))))))))
     (FnA.at_ a_rNum 1 (F_rnx l i k n)))))
    (VC.need ((0 : Int) ≤ k ∧ k < (↑(List.length (rowsOn l)) : Int) ∧ List.length (rowAt (rowsOn l) (Int.toNat k)) = (1 : Nat))
    (VC.need (okSh [Kd.int IntKind.i32] (rowAt (rowsOn l) (Int.toNat k)))
    (FnA.at_ a_rNum 0 (F_rnm l m i (IntKind.wrap IntKind.i64 (k + (1 : Int))) (IntKind.wrap IntKind.i64 (IntKind.wrap IntKind.i64 ((10 : Int) * n) + IntKind.wrap IntKind.i64 (IntKind.wrap IntKind.i32 (asInt (List.getD (rowAt (rowsOn l) (Int.toNat k)) (0 : Nat) D.nilp) - (48 : Int))))))))))
   (FnA.at_ a_rNum 1 (F_rnx l i k n)))
  (FnA.at_ a_rNum 1 (F_rnx l i k n)))))))
 (FnA.at_ a_rNum 1 (F_rnx l i k n))) := by kernel_rfl
set_option maxRecDepth 100000 in
theorem t_rNum1 (l : List Rn) (i k n : Int) : a_rNum.round s_rNum 400 1 (F_rnx l i k n) =
(VC.br (k == i)
 (VC.ret (some (RR.tup [Sum.inl (Rc.d (D.int IntKind.i64 k)), Sum.inl (Rc.d (D.int IntKind.i64 (0 : Int))), Sum.inl (Rc.d (D.bool false))])))
 (VC.br (decide (k < (↑(List.length (rowsOn l)) : Int)))
  (VC.need ((0 : Int) ≤ k ∧ k < (↑(List.length (rowsOn l)) : Int) ∧ List.length (rowAt (rowsOn l) (Int.toNat k)) = (1 : Nat))
  (VC.need (okSh [Kd.int IntKind.i32] (rowAt (rowsOn l) (Int.toNat k)))
  (VC.need (PreOk c_rDig (asInt (List.getD (rowAt (rowsOn l) (Int.toNat k)) (0 : Nat) D.nilp)) [A.c (D.int IntKind.i32 (asInt (List.getD (rowAt (rowsOn l) (Int.toNat k)) (0 : Nat) D.nilp)))])
  (VC.all (v_rDig (asInt (List.getD (rowAt (rowsOn l) (Int.toNat k)) (0 : Nat) D.nilp))) fun (y4 : Bool) =>
  (VC.br (y4)
   (VC.ret (some (RR.tup [Sum.inl (Rc.d (D.int IntKind.i64 k)), Sum.inl (Rc.d (D.int IntKind.i64 (0 : Int))), Sum.inl (Rc.d (D.bool false))])))
   (VC.need ((0 : Int) ≤ k ∧ k < (↑(List.length (rowsOn l)) : Int) ∧ List.length (rowAt (rowsOn l) (Int.toNat k)) = (1 : Nat))
   (VC.need (okSh [Kd.int IntKind.i32] (rowAt (rowsOn l) (Int.toNat k)))
   (VC.need (PreOk c_rLet (asInt (List.getD (rowAt (rowsOn l) (Int.toNat k)) (0 : Nat) D.nilp)) [A.c (D.int IntKind.i32 (asInt (List.getD (rowAt (rowsOn l) (Int.toNat k)) (0 : Nat) D.nilp)))])
   (VC.all (v_rLet (asInt (List.getD (rowAt (rowsOn l) (Int.toNat k)) (0 : Nat) D.nilp))) fun (y5 : Bool) =>
   (VC.br (y5)
    (VC.ret (some (RR.tup [Sum.inl (Rc.d (D.int IntKind.i64 k)), Sum.inl (Rc.d (D.int IntKind.i64 (0 : Int))), Sum.inl (Rc.d (D.bool false))])))
    (VC.ret (some (RR.tup [Sum.inl (Rc.d (D.int IntKind.i64 k)), Sum.inl (Rc.d (D.int IntKind.i64 n)), Sum.inl (Rc.d (D.bool true))])))))))))))))
  (VC.ret (some (RR.tup [Sum.inl (Rc.d (D.int IntKind.i64 k)), Sum.inl (Rc.d (D.int IntKind.i64 n)), Sum.inl (Rc.d (D.bool true))]))))) := by kernel_rfl
def rfin (l : List Rn) (i k n : Int) : Int × Int × Bool := if k = i then (k, 0, false) else if aloneL (l.drop k.toNat) = true then (k, n, true) else (k, 0, false)
theorem at_rnx (l : List Rn) (i k n : Int) (h0 : 0 ≤ k) : (a_rNum.at_ 1 (F_rnx l i k n)).holds s_rNum.cx a_rNum.rs (fun r => r.le (riib3 (rfin l i k n))) := by
  refine at_of_round s_rNum_sound (m := 400) ?_
  rw [t_rNum1]
  try simp only [asRows_sl, asInt_int, asBool_bool, asStr_str, listOf_rowsOn, List.drop_zero, Prg.eta, Sta.eta, rowsOn_length, getD_drop, Nat.reduceAdd, rd_int, rd_PMem_name, rd_PMem_secret, rd_PMem_n, rd_PLabel_name, rd_PLabel_at_, rd_Ins_kind, rd_Ins_op, rd_Ins_d, rd_Ins_aR, rd_Ins_aN, rd_Ins_bR, rd_Ins_bN, rd_Ins_name, rd_Ins_target, rd_Ent_pc, rd_Ent_val, rd_Ent_addr, rd_Ent_fro, rd_Ent_next, rd_Ent_done, rd_Ent_known, rd_Ent_fault, rd_Place_reg, rd_Place_n, rd_Place_secret, rd_Obs_kind, rd_Obs_at_, rd_Dir_kind, rd_Dir_n, rd_Rn_v, rd_Tok_kind, rd_Tok_text, rd_Tok_n, rd_Tok_at_]
  unfold rfin
  refine br_beq (fun h => ?_) (fun h => br_dec (fun hd => ?_) (fun hd => ?_))
  · rw [if_pos h]; exact ret_le (RR.le_refl _)
  · rw [if_neg h, drop_rn l k h0 hd]
    have ea : aloneL (rd l k :: l.drop (k + 1).toNat) = !(isLet (rd l k).v || isDig (rd l k).v) := rfl
    rw [ea]
    refine ⟨rn_ok l k h0 hd, rn_sh l k h0 hd, PreOk.mk trivial rfl, all_holds fun y hy => br_holds (fun h1 => ?_) (fun h1 => ?_)⟩
    · replace hy : y = isDig (rd l k).v := hy
      rw [← hy, h1, Bool.or_true, if_neg (by decide)]; exact ret_le (RR.le_refl _)
    · replace hy : y = isDig (rd l k).v := hy
      rw [← hy, h1, Bool.or_false]
      refine ⟨rn_ok l k h0 hd, rn_sh l k h0 hd, PreOk.mk trivial rfl, all_holds fun z hz => br_holds (fun h2 => ?_) (fun h2 => ?_)⟩
      · replace hz : z = isLet (rd l k).v := hz
        rw [← hz, h2, if_neg (by decide)]; exact ret_le (RR.le_refl _)
      · replace hz : z = isLet (rd l k).v := hz
        rw [← hz, h2, if_pos (by decide)]; exact ret_le (RR.le_refl _)
  · rw [if_neg h, drop_end l k (by omega), if_pos (show aloneL [] = true from rfl)]; exact ret_le (RR.le_refl _)
/-- Amid a number: so many digits are read. -/
def NumI (l : List Rn) (m : Nat) (i k n : Int) : Prop := ∃ d : Nat, k = i + d ∧ d ≤ m ∧ 0 ≤ n ∧ n < (10 : Int) ^ d ∧ (d = 0 → n = 0) ∧ (0 < d → i < l.length ∧ isDig (rd l i).v = true ∧ ((rd l i).v = 48 → d = 1 ∧ n = 0) ∧
  ((rd l i).v ≠ 48 → (digF (l.drop i.toNat) m 0).1 = (digF (l.drop k.toNat) (m - d) n).1 ∧ i + (digF (l.drop i.toNat) m 0).2 = k + (digF (l.drop k.toNat) (m - d) n).2))
theorem numI_out {l : List Rn} {m : Nat} {i k n : Int} (hi : 0 ≤ i) (hm : 1 ≤ m) (h : NumI l m i k n) (hx : (l.length : Int) ≤ k ∨ (k < l.length ∧ (isDig (rd l k).v = false ∨ (m : Int) ≤ k - i ∨ (i < k ∧ (rd l i).v = 48)))) : rfin l i k n = numR l i m := by
  obtain ⟨d, e, d1, n0, n1, z0, z1⟩ := h
  unfold rfin numR
  cases d with
  | zero =>
    have ek : k = i := by omega
    subst ek
    rw [if_pos rfl]
    have e : numL (l.drop k.toNat) m = none := by
      rcases hx with h | ⟨h, h1⟩
      · rw [drop_end l k h]; rfl
      · rw [drop_rn l k hi h]
        unfold numL
        dsimp only
        rw [if_neg]
        rcases h1 with h1 | h1 | h1
        · rw [h1]; simp
        · omega
        · omega
    rw [e]
  | succ d =>
    obtain ⟨q1, q2, q3, q4⟩ := z1 (by omega)
    rw [if_neg (by omega)]
    by_cases h48 : (rd l i).v = 48
    · obtain ⟨rfl, rfl⟩ : d = 0 ∧ n = 0 := by have := q3 h48; omega
      have e2 : numL (l.drop i.toNat) m = some (0, 1) := by
        rw [drop_rn l i hi q1]
        unfold numL
        dsimp only
        rw [if_pos q2, if_pos h48]
      rw [e2, e]
    · obtain ⟨w1, w2⟩ := q4 h48
      have es : digF (l.drop k.toNat) (m - (d + 1)) n = (n, 0) := by
        rcases hx with h | ⟨h, h1⟩
        · rw [drop_end l k h]; cases m - (d + 1) <;> rfl
        · rw [drop_rn l k (by omega) h]
          rcases h1 with h1 | h1 | h1
          · exact digF_stop (by rw [h1]; simp) _ _ _
          · rw [show m - (d + 1) = 0 by omega]; rfl
          · exact absurd h1.2 h48
      rw [es] at w1 w2
      have e2 : numL (l.drop i.toNat) m = some ((digF (l.drop i.toNat) m 0).1, (digF (l.drop i.toNat) m 0).2) := by
        rw [drop_rn l i hi q1]
        unfold numL
        dsimp only
        rw [if_pos q2, if_neg h48]
      rw [e2]
      dsimp only at w1 w2 ⊢
      rw [w1, show i + ((digF (l.drop i.toNat) m 0).2 : Int) = k by omega]
theorem numI_on {l : List Rn} {m : Nat} {i k n : Int} (hi : 0 ≤ i) (h : NumI l m i k n) (hk : k < l.length) (hd : isDig (rd l k).v = true) (hm : k - i < m) (hz : ¬ (i < k ∧ (rd l i).v = 48)) : NumI l m i (k + 1) (10 * n + ((rd l k).v - 48)) := by
  obtain ⟨d, e, d1, n0, n1, z0, z1⟩ := h
  have h2 := isDig_iff.1 hd
  refine ⟨d + 1, by omega, by omega, by omega, by rw [Int.pow_succ]; omega, fun h => by omega, fun _ => ?_⟩
  obtain ⟨q, hq⟩ : ∃ q, m - d = q + 1 := ⟨m - d - 1, by omega⟩
  have eq : m - (d + 1) = q := by omega
  have st : digF (l.drop k.toNat) (m - d) n = ((digF (l.drop (k + 1).toNat) q (10 * n + ((rd l k).v - 48))).1, (digF (l.drop (k + 1).toNat) q (10 * n + ((rd l k).v - 48))).2 + 1) := by
    rw [hq, drop_rn l k (by omega) hk]
    rw [digF, if_pos hd]
  cases d with
  | zero =>
    have ek : k = i := by omega
    subst ek
    have en := z0 rfl
    subst en
    refine ⟨hk, hd, fun h48 => ⟨rfl, by omega⟩, fun h48 => ?_⟩
    rw [eq]
    rw [Nat.sub_zero] at st
    rw [st]
    exact ⟨rfl, by dsimp only; omega⟩
  | succ d =>
    obtain ⟨q1, q2, q3, q4⟩ := z1 (by omega)
    refine ⟨q1, q2, fun h48 => absurd ⟨by omega, h48⟩ hz, fun h48 => ?_⟩
    obtain ⟨w1, w2⟩ := q4 h48
    rw [eq]
    rw [st] at w1 w2
    exact ⟨w1, by dsimp only at w2; omega⟩
theorem l_rNum0 (l : List Rn) (m : Nat) (i : Int) (hl : l.length ≤ 1000000) (hi : 0 ≤ i) (hi2 : i ≤ 1000000) (hm1 : 1 ≤ m) (hm : m ≤ 9) : ∀ i_ : Int × Int, (fun (v : Int × Int) => NumI l m i v.1 v.2) i_ → (a_rNum.at_ 0 ((fun (v : Int × Int) => F_rnm l m i v.1 v.2) i_)).holds s_rNum.cx a_rNum.rs (fun r => r.le (riib3 (numR l i m))) := by
  refine loop_rule (a := a_rNum) (j := 0) (m := 400) s_rNum_sound (fun (v : Int × Int) => F_rnm l m i v.1 v.2) (fun (v : Int × Int) => NumI l m i v.1 v.2) (fun (v : Int × Int) => ((l.length : Int) - v.1).toNat) ?_
  rintro ⟨k, n⟩ h_inv ih
  try dsimp only at h_inv
  replace ih := fun (v0 : Int) (v1 : Int) => ih (v0, v1)
  try dsimp only at ih
  show VC.holds _ _ _ (a_rNum.round s_rNum 400 0 (F_rnm l m i k n))
  rw [t_rNum0]
  try simp only [asRows_sl, asInt_int, asBool_bool, asStr_str, listOf_rowsOn, List.drop_zero, Prg.eta, Sta.eta, rowsOn_length, getD_drop, Nat.reduceAdd, rd_int, rd_PMem_name, rd_PMem_secret, rd_PMem_n, rd_PLabel_name, rd_PLabel_at_, rd_Ins_kind, rd_Ins_op, rd_Ins_d, rd_Ins_aR, rd_Ins_aN, rd_Ins_bR, rd_Ins_bN, rd_Ins_name, rd_Ins_target, rd_Ent_pc, rd_Ent_val, rd_Ent_addr, rd_Ent_fro, rd_Ent_next, rd_Ent_done, rd_Ent_known, rd_Ent_fault, rd_Place_reg, rd_Place_n, rd_Place_secret, rd_Obs_kind, rd_Obs_at_, rd_Dir_kind, rd_Dir_n, rd_Rn_v, rd_Tok_kind, rd_Tok_text, rd_Tok_n, rd_Tok_at_]
  have h0 : 0 ≤ k := by obtain ⟨d, e, _⟩ := h_inv; omega
  have out : ((l.length : Int) ≤ k ∨ (k < l.length ∧ (isDig (rd l k).v = false ∨ (m : Int) ≤ k - i ∨ (i < k ∧ (rd l i).v = 48)))) → (a_rNum.at_ 1 (F_rnx l i k n)).holds s_rNum.cx a_rNum.rs fun r => r.le (riib3 (numR l i m)) := fun hx => by
    rw [← numI_out hi hm1 h_inv hx]
    exact at_rnx l i k n h0
  refine br_dec (fun hd => ?_) (fun hd => out (.inl (by omega)))
  refine ⟨rn_ok l k h0 hd, rn_sh l k h0 hd, PreOk.mk trivial rfl, all_holds fun y hy => br_holds (fun hg => ?_) (fun hg => out (.inr ⟨hd, .inl ?_⟩))⟩
  · replace hy : y = isDig (rd l k).v := hy
    have hg1 : isDig (rd l k).v = true := by rw [← hy]; exact hg
    have hg2 := isDig_iff.1 hg1
    have hb : 0 ≤ n ∧ n < 1000000000 ∧ i ≤ k ∧ k ≤ i + m := by
      obtain ⟨d, e, d1, n0, n1, _⟩ := h_inv
      have := ten_pow (k := d) (by omega)
      omega
    rw [wrap_small (k - i) (by omega) (by omega)]
    refine br_dec (fun hm2 => ?_) (fun hm2 => out (.inr ⟨hd, .inr (.inl (by omega))⟩))
    have nxt : ¬ (i < k ∧ (rd l i).v = 48) → (a_rNum.at_ 0 (F_rnm l m i (IntKind.wrap .i64 (k + 1)) (IntKind.wrap .i64 (IntKind.wrap .i64 (10 * n) + IntKind.wrap .i64 (IntKind.wrap .i32 ((rd l k).v - 48)))))).holds s_rNum.cx a_rNum.rs fun r => r.le (riib3 (numR l i m)) := fun hz => by
      rw [wrap_small32 _ (by omega) (by omega), wrap_small ((rd l k).v - 48) (by omega) (by omega), wrap_small (10 * n) (by omega) (by omega), wrap_small (10 * n + ((rd l k).v - 48)) (by omega) (by omega), wrap_small (k + 1) (by omega) (by omega)]
      exact ih _ _ (numI_on hi h_inv hd hg1 hm2 hz) (by omega)
    refine br_dec (fun hik => ?_) (fun hik => ⟨rn_ok l k h0 hd, rn_sh l k h0 hd, nxt fun q => hik q.1⟩)
    refine ⟨rn_ok l i hi (by omega), rn_sh l i hi (by omega), br_not (br_beq (fun h8 => out (.inr ⟨hd, .inr (.inr ⟨hik, h8⟩)⟩)) (fun h8 => ⟨rn_ok l k h0 hd, rn_sh l k h0 hd, nxt fun q => h8 q.2⟩))⟩
  · replace hy : y = isDig (rd l k).v := hy
    rw [← hy]; exact hg
theorem c_rNum_good : c_rNum.fe.Good Tryd.prog := by
  refine FT.good c_rNum ⟨Tryd.f35, by kernel_rfl, by decide +kernel, by kernel_rfl⟩ (fun ⟨l, i, m⟩ => by first | rfl | simp [c_rNum, rrRef, rR, riib3, ri, rb, rib, Sta.fresh]) fun ⟨l, i, m⟩ hp => ?_
  refine acalls_le s_rNum_sound (fn := Tryd.f35) (a := a_rNum) (nargs := 3) (tbl := [(2, [0, 1, 2, 9, 10]), (1000000012, [0, 1, 9, 10])]) (by kernel_rfl) (by kernel_rfl) rfl (m := 400) ?_
  show VC.holds _ _ _ (a_rNum.start s_rNum 400 [aR l, ai i, ai m])
  rw [t_rNum]
  try simp only [asRows_sl, asInt_int, asBool_bool, asStr_str, listOf_rowsOn, List.drop_zero, Prg.eta, Sta.eta, rowsOn_length, getD_drop, Nat.reduceAdd, rd_int, rd_PMem_name, rd_PMem_secret, rd_PMem_n, rd_PLabel_name, rd_PLabel_at_, rd_Ins_kind, rd_Ins_op, rd_Ins_d, rd_Ins_aR, rd_Ins_aN, rd_Ins_bR, rd_Ins_bN, rd_Ins_name, rd_Ins_target, rd_Ent_pc, rd_Ent_val, rd_Ent_addr, rd_Ent_fro, rd_Ent_next, rd_Ent_done, rd_Ent_known, rd_Ent_fault, rd_Place_reg, rd_Place_n, rd_Place_secret, rd_Obs_kind, rd_Obs_at_, rd_Dir_kind, rd_Dir_n, rd_Rn_v, rd_Tok_kind, rd_Tok_text, rd_Tok_n, rd_Tok_at_]
  try simp only [c_rNum] at hp
  obtain ⟨hl, hi, hi2, hm1, hm⟩ := hp
  exact l_rNum0 l m i hl hi hi2 hm1 hm (i, 0) ⟨0, by dsimp only; omega, by omega, by dsimp only; omega, by dsimp only; omega, fun _ => rfl, fun h => absurd h (Nat.lt_irrefl 0)⟩
noncomputable def v_rNum : List Rn × Int × Nat → Int × Int × Bool := fun x => numR x.1 x.2.1 x.2.2
noncomputable def sh_rNum : Int × Int × Bool → RR := fun y => riib3 y
theorem e_rNum (x : List Rn × Int × Nat) : sh_rNum (v_rNum x) = c_rNum.ans x := rfl
end Go.Proofs.YtmmlolampgnamaaDoor.Ax
end
