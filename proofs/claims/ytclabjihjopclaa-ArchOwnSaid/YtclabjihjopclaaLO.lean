/- The statement ArchOwn. -/
import Derived.Test.YtclabjihjopclaaP1
namespace Go.Proofs.Ytclabjihjopclaa.Ax
open Go.RowKit
set_option linter.unusedVariables false
set_option linter.unusedSimpArgs false
noncomputable def v_aStart : Prg × List Int → Sta × Bool := fun x => startS x.1 x.2
noncomputable def sh_aStart : Sta × Bool → RR := fun y => rstab y
theorem e_aStart (x : Prg × List Int) : sh_aStart (v_aStart x) = c_aStart.ans x := rfl
noncomputable def v_aCode : Sta × Unit → List By := fun x => codeS x.1
noncomputable def sh_aCode : List By → RR := fun l => rby l
theorem e_aCode (x : Sta × Unit) : sh_aCode (v_aCode x) = c_aCode.ans x := rfl
def rdLLx : List A → List Int × List Int
  | [.c (.sl l), .c (.sl m)] => (listOf Int l, listOf Int m)
  | _ => default
def c_lOwn : FT (List Int × List Int) := ⟨8, fun x => [al x.1, al x.2], rdLLx, fun _ => True, fun x => rb true, false, fun x => by simp [al, rdLLx]⟩
noncomputable def a_lOwn : FnA := (fnA Try.prog Try.f8 2 [(4, [1, 5, 6, 23, 24]), (15, [5, 6, 8, 10, 12, 62, 63])]).getD ⟨0, .skip, [], []⟩
noncomputable def s_lOwn : Sp := spT [c_make.gfe v_make sh_make e_make, c_rPlaces.gfe v_rPlaces sh_rPlaces e_rPlaces, c_aStart.gfe v_aStart sh_aStart e_aStart, c_aCode.gfe v_aCode sh_aCode e_aCode, c_aLow.gfe v_aLow sh_aLow e_aLow, c_awake7.fe]
theorem s_lOwn_sound : s_lOwn.sound Try.prog := spT_sound fun e he => by
  simp only [List.mem_cons, List.not_mem_nil, or_false] at he
  rcases he with rfl | rfl | rfl | rfl | rfl | rfl
  · exact FT.gfe_good c_make_good
  · exact FT.gfe_good c_rPlaces_good
  · exact FT.gfe_good c_aStart_good
  · exact FT.gfe_good c_aCode_good
  · exact FT.gfe_good c_aLow_good
  · exact c_awake7_good
def F_lo0 (p : Prg) (l : List Int) (X : List (List D)) (n : Nat) (k : Int) : St := ⟨mkS 109 [(1, vr (rowsOn l)), (5, vp 320), (6, vo 1344 n), (23, vi (n : Int)), (24, vi k)], [(320, bx p.cells), (1344, ba 1 X)]⟩
def F_lo1 (p : Prg) (X : List (List D)) (n : Nat) (a b : Sta) (M : List (List D)) (h : Nat) (st : ByteArray) (k : Int) : St := ⟨mkS 109 [(5, vp 320), (6, vo 1344 n), (8, vp 512), (10, vp 640), (12, vt st), (62, vi (h : Int)), (63, vi k)], [(320, bx p.cells), (512, bc [.d (.int .i64 a.r0), .d (.int .i64 a.r1), .d (.int .i64 a.r2), .d (.int .i64 a.r3), .own 2692 1 h, .own 2693 1 (rowsOn a.stack).length, .d (.int .i64 a.pc)]), (640, bc [.d (.int .i64 b.r0), .d (.int .i64 b.r1), .d (.int .i64 b.r2), .d (.int .i64 b.r3), .own 3076 1 (rowsOn b.mem).length, .own 3077 1 (rowsOn b.stack).length, .d (.int .i64 b.pc)]), (1344, ba 1 X), (2692, ba 1 M), (2693, ba 1 (rowsOn a.stack)), (3076, ba 1 (rowsOn b.mem)), (3077, ba 1 (rowsOn b.stack))]⟩
set_option maxRecDepth 100000 in
theorem t_lOwn (m l : List Int) : a_lOwn.start s_lOwn 400 [al m, al l] =
(VC.need (PreOk c_make (m, ()) [A.c (D.sl (rowsOn m))])
(VC.all (v_make (listOf Int (rowsOn m), ())) fun (y2 : Prg) =>
(VC.need (PreOk c_rPlaces y2 [A.agg (Prg.cells y2)])
(VC.all (v_rPlaces { w := y2.w, window := y2.window, fuel := y2.fuel, r0 := y2.r0, r1 := y2.r1, r2 := y2.r2, r3 := y2.r3, mems := listOf PMem (rowsOn y2.mems), labels := listOf PLabel (rowsOn y2.labels), ins := listOf Ins (rowsOn y2.ins) }) fun (y3 : List Place) =>
(VC.need ((↑(List.length (rowsOn y3)) : Int) = (↑(List.length (rowsOn y3)) : Int) ∧ (0 : Int) ≤ (↑(List.length (rowsOn y3)) : Int) ∧ (9 : Int) * (↑(List.length (rowsOn y3)) : Int) ≤ (140737488355328 : Int))
(FnA.at_ a_lOwn 0 (F_lo0 y2 l (List.replicate (Int.toNat (↑(List.length (rowsOn y3)) : Int)) [D.int IntKind.i64 (0 : Int)]) (Int.toNat (↑(List.length (rowsOn y3)) : Int)) (0 : Int)))))))) := by kernel_rfl
set_option maxRecDepth 100000 in
theorem t_lo0 (p : Prg) (l : List Int) (X : List (List D)) (n : Nat) (k : Int) : a_lOwn.round s_lOwn 400 0 (F_lo0 p l X n k) =
(VC.br (decide (k < (↑n : Int)))
 (VC.br (decide (k < (↑(List.length (rowsOn l)) : Int)))
  (VC.need ((0 : Int) ≤ k ∧ k < (↑(List.length (rowsOn l)) : Int) ∧ List.length (rowAt (rowsOn l) (Int.toNat k)) = (1 : Nat))
  (VC.need (okSh [Kd.int IntKind.i64] (rowAt (rowsOn l) (Int.toNat k)))
  (VC.need ((0 : Int) ≤ k ∧ k < (↑n : Int))
  (VC.need (Int.toNat k < List.length X ∧ List.length (rowAt X (Int.toNat k)) = (1 : Nat) ∧ (1 : Nat) ≤ (1 : Nat))
  (FnA.at_ a_lOwn 0 (F_lo0 p l (List.set X (Int.toNat k) (splice (rowAt X (Int.toNat k)) (0 : Nat) [D.int IntKind.i64 (asInt (List.getD (rowAt (rowsOn l) (Int.toNat k)) (0 : Nat) D.nilp))])) n (IntKind.wrap IntKind.i64 (k + (1 : Int)))))))))
  (FnA.at_ a_lOwn 0 (F_lo0 p l X n (IntKind.wrap IntKind.i64 (k + (1 : Int))))))
 (VC.need (PreOk c_aStart (Prg.of (Prg.cells p), listOf Int X) [A.agg (Prg.cells p), A.c (D.sl X)])
 (VC.all (v_aStart (Prg.of (Prg.cells p), listOf Int X)) fun (y5 : Sta × Bool) =>
 (VC.need (PreOk c_aStart (Prg.of (Prg.cells p), listOf Int X) [A.agg (Prg.cells p), A.c (D.sl X)])
 (VC.all (v_aStart (Prg.of (Prg.cells p), listOf Int X)) fun (y6 : Sta × Bool) =>
 (VC.br (!y5.snd)
  (VC.ret (some (RR.c (Rc.d (D.bool false)))))
  (VC.br (!y6.snd)
   (VC.ret (some (RR.c (Rc.d (D.bool false)))))
   (VC.need (PreOk c_aCode (Sta.of (Sta.cells y6.fst), ()) [A.agg (Sta.cells y6.fst)])
   (VC.all (v_aCode (Sta.of (Sta.cells y6.fst), ())) fun (y7 : List By) =>
   (VC.need (rowsOn y7 = List.map (fun r ↦ [D.int IntKind.u8 (asInt (List.getD r (0 : Nat) D.nilp))]) (rowsOn y7))
   (FnA.at_ a_lOwn 1 (F_lo1 p X n y5.fst y6.fst (rowsOn y5.fst.mem) (List.length (rowsOn y5.fst.mem)) (strOfNums (List.map (fun r ↦ asInt (List.getD r (0 : Nat) D.nilp)) (rowsOn y7))) (0 : Int))))))))))))) := by kernel_rfl
set_option maxRecDepth 100000 in
theorem t_lo1 (p : Prg) (X : List (List D)) (n : Nat) (a b : Sta) (M : List (List D)) (h : Nat) (st : ByteArray) (k : Int) : a_lOwn.round s_lOwn 400 1 (F_lo1 p X n a b M h st k) =
(VC.br (decide (k < (↑h : Int)))
 (VC.need ((0 : Int) ≤ k ∧ k < (↑h : Int))
 (VC.need (Int.toNat k < List.length M ∧ List.length (rowAt M (Int.toNat k)) = (1 : Nat) ∧ okSh [Kd.int IntKind.i64] (List.drop (0 : Nat) (rowAt M (Int.toNat k))))
 (VC.need ((0 : Int) ≤ k ∧ k < (↑h : Int))
 (VC.need (Int.toNat k < List.length M ∧ List.length (rowAt M (Int.toNat k)) = (1 : Nat) ∧ (1 : Nat) ≤ (1 : Nat))
 (FnA.at_ a_lOwn 1 (F_lo1 p X n a b (List.set M (Int.toNat k) (splice (rowAt M (Int.toNat k)) (0 : Nat) [D.int IntKind.i64 (IntKind.wrap IntKind.i64 (asInt (List.getD (List.drop (0 : Nat) (rowAt M (Int.toNat k))) (0 : Nat) D.nilp) + (1 : Int)))])) h st (IntKind.wrap IntKind.i64 (k + (1 : Int)))))))))
 (VC.need ((List.all [[D.int IntKind.i64 (3 : Int)]] fun r ↦ List.length r == (1 : Nat)) = true ∧ (List.all (rowsOn a.stack) fun r ↦ List.length r == (1 : Nat)) = true ∧ (List.length (rowsOn a.stack) + (1 : Nat) + (100 : Nat)) * (9 : Nat) ≤ (70368744177664 : Nat))
 (VC.need (PreOk c_aStart (Prg.of (Prg.cells p), listOf Int X) [A.agg (Prg.cells p), A.c (D.sl X)])
 (VC.all (v_aStart (Prg.of (Prg.cells p), listOf Int X)) fun (y9 : Sta × Bool) =>
 (VC.br (y9.snd)
  (VC.need (PreOk c_aCode (Sta.of (Sta.cells b), ()) [A.agg (Sta.cells b)])
  (VC.all (v_aCode (Sta.of (Sta.cells b), ())) fun (y10 : List By) =>
  (VC.need (rowsOn y10 = List.map (fun r ↦ [D.int IntKind.u8 (asInt (List.getD r (0 : Nat) D.nilp))]) (rowsOn y10))
  (VC.br (ByteArray.toList (strOfNums (List.map (fun r ↦ asInt (List.getD r (0 : Nat) D.nilp)) (rowsOn y10))) == ByteArray.toList st)
   (VC.need (PreOk c_aCode (Sta.of (Sta.cells y9.fst), ()) [A.agg (Sta.cells y9.fst)])
   (VC.all (v_aCode (Sta.of (Sta.cells y9.fst), ())) fun (y11 : List By) =>
   (VC.need (rowsOn y11 = List.map (fun r ↦ [D.int IntKind.u8 (asInt (List.getD r (0 : Nat) D.nilp))]) (rowsOn y11))
   (VC.br (ByteArray.toList (strOfNums (List.map (fun r ↦ asInt (List.getD r (0 : Nat) D.nilp)) (rowsOn y11))) == ByteArray.toList st)
    (VC.need (PreOk c_aLow (Prg.of (Prg.cells p), Sta.of (Sta.cells b), Sta.of (Sta.cells y9.fst)) [A.agg (Prg.cells p), A.agg (Sta.cells b), A.agg (Sta.cells y9.fst)])
    (VC.all (v_aLow (Prg.of (Prg.cells p), Sta.of (Sta.cells b), Sta.of (Sta.cells y9.fst))) fun (y12 : Bool) =>
    (VC.br (y12)
     (VC.need (PreOk c_awake7 PUnit.unit [])
     (VC.ret (some (RR.c (Rc.d (D.bool true))))))
     (VC.ret (some (RR.c (Rc.d (D.bool false))))))))
    (VC.ret (some (RR.c (Rc.d (D.bool false)))))))))
   (VC.ret (some (RR.c (Rc.d (D.bool false)))))))))
  (VC.ret (some (RR.c (Rc.d (D.bool false)))))))))) := by kernel_rfl
theorem by_rows (l : List By) : rowsOn l = List.map (fun r => [D.int .u8 (asInt (List.getD r 0 .nilp))]) (rowsOn l) := by
  simp only [rowsOn, List.map_map]
  rfl
def strB (l : List By) : ByteArray := strOfNums (List.map (fun r => asInt (List.getD r 0 .nilp)) (rowsOn l))
theorem l_lo1 (p : Prg) (xs : List Int) (n h : Nat) (a b : Sta) (hm : Mems p.mems) (hb : startS p xs = (b, true)) (hbl : b.mem.length = cellsS p.mems) (hbs : b.stack = []) (has : a.stack = []) (hn : n = xs.length) (hh : h ≤ 10000) : ∀ i : Int × List (List D), (fun (i : Int × List (List D)) => 0 ≤ i.1 ∧ i.1 ≤ h ∧ ∃ mem : List Int, OnL i.2 h mem) i → (a_lOwn.at_ 1 ((fun (i : Int × List (List D)) => F_lo1 p (rowsOn xs) n a b i.2 h (strB (codeS b)) i.1) i)).holds s_lOwn.cx a_lOwn.rs (fun r => r.le (rb true)) := by
  refine loop_rule (a := a_lOwn) (j := 1) (m := 400) s_lOwn_sound (fun (i : Int × List (List D)) => F_lo1 p (rowsOn xs) n a b i.2 h (strB (codeS b)) i.1) (fun (i : Int × List (List D)) => 0 ≤ i.1 ∧ i.1 ≤ h ∧ ∃ mem : List Int, OnL i.2 h mem) (fun (i : Int × List (List D)) => ((h : Int) - i.1).toNat) ?_
  rintro ⟨k, M⟩ h_inv ih
  try dsimp only at h_inv
  replace ih := fun (v0 : Int) (v1 : List (List D)) => ih (v0, v1)
  try dsimp only at ih
  show VC.holds _ _ _ (a_lOwn.round s_lOwn 400 1 (F_lo1 p (rowsOn xs) n a b M h (strB (codeS b)) k))
  rw [t_lo1]
  try simp only [asRows_sl, asInt_int, asBool_bool, asStr_str, listOf_rowsOn, List.drop_zero, Prg.eta, Sta.eta, rowsOn_length, getD_drop, Nat.reduceAdd, rd_int, rd_PMem_name, rd_PMem_secret, rd_PMem_n, rd_PLabel_name, rd_PLabel_at_, rd_Ins_kind, rd_Ins_op, rd_Ins_d, rd_Ins_aR, rd_Ins_aN, rd_Ins_bR, rd_Ins_bN, rd_Ins_name, rd_Ins_target, rd_Ent_pc, rd_Ent_val, rd_Ent_addr, rd_Ent_fro, rd_Ent_next, rd_Ent_done, rd_Ent_known, rd_Ent_fault, rd_Place_reg, rd_Place_n, rd_Place_secret, rd_Obs_kind, rd_Obs_at_, rd_Dir_kind, rd_Dir_n]
  obtain ⟨h0, h1, mem, h2⟩ := h_inv
  have hc := (places_len p hm).2
  have hs : SmallS b := ⟨by omega, by rw [hbs]; decide⟩
  have hl := low_self hm hbl
  have e0 := h2.2
  have w1 : IntKind.wrap .i64 (k + 1) = k + 1 := wrap_small _ (by omega) (by omega)
  simp only [Prg.of_cells, Sta.of_cells, v_aStart, v_aCode, v_aLow, hb, w1]
  repeat' first
    | refine br_not ?_
    | refine br_dec (fun _ => ?_) (fun _ => ?_)
    | refine br_beq (fun _ => ?_) (fun _ => ?_)
    | refine br_bne (fun _ => ?_) (fun _ => ?_)
    | refine br_holds (fun _ => ?_) (fun _ => ?_)
    | refine ⟨PreOk.mk ?_ rfl, ?_⟩
    | refine ⟨idx_ok _ _ _ rfl (by omega) (by omega), ?_⟩
    | refine ⟨okSh_ok _ _ _ (fun _ => rfl) (by omega) (by omega), ?_⟩
    | refine ⟨okSh_okD _ _ _ _ (fun _ => rfl) (by omega) (by omega), ?_⟩
    | refine ⟨aload_ok _ _ rfl (fun _ => rfl) (by omega) (by omega), ?_⟩
    | refine ⟨aload_okD _ _ _ rfl (fun _ => rfl) (by omega) (by omega), ?_⟩
    | refine ⟨astore_ok (by assumption) rfl (by omega) (by omega) (by decide), ?_⟩
    | refine ⟨app_ok (by assumption) rfl rfl (by simp only [List.length_cons, List.length_nil]; omega), ?_⟩
    | refine need_holds ?_ fun _ => ?_
    | refine all_holds fun y hy => ?_
    | refine ret_le ?_
    | refine ih _ _ ?_ ?_
  all_goals try omega
  · obtain ⟨rfl, _⟩ := h2
    rw [rowsOn_length]
    exact aload_ok mem k rfl (fun _ => rfl) (by omega) (by omega)
  · exact ⟨by omega, by omega, _, h2.set h0 (by omega) _⟩
  all_goals try exact by_rows _
  all_goals subst_vars
  all_goals try exact hs
  all_goals try exact hm
  all_goals try exact ⟨hm, hs, hs⟩
  all_goals try exact trivial
  all_goals try exact RR.le_refl _
  all_goals try exact ⟨rfl, all1 _, by rw [has]; decide⟩
  all_goals (rename_i h; exfalso; first | exact h rfl | (rw [show lowS p b (b, true).fst = true from hl] at hy; cases hy; done) | (simp only [hl] at h; cases h; done) | (cases h; done))
theorem l_lo0 (p : Prg) (l : List Int) (n : Nat) (hm : Mems p.mems) (hn : n = (placesS p).length) : ∀ i : Int × List (List D), (fun (i : Int × List (List D)) => 0 ≤ i.1 ∧ i.1 ≤ n ∧ ∃ xs : List Int, OnL i.2 n xs) i → (a_lOwn.at_ 0 ((fun (i : Int × List (List D)) => F_lo0 p l i.2 n i.1) i)).holds s_lOwn.cx a_lOwn.rs (fun r => r.le (rb true)) := by
  refine loop_rule (a := a_lOwn) (j := 0) (m := 400) s_lOwn_sound (fun (i : Int × List (List D)) => F_lo0 p l i.2 n i.1) (fun (i : Int × List (List D)) => 0 ≤ i.1 ∧ i.1 ≤ n ∧ ∃ xs : List Int, OnL i.2 n xs) (fun (i : Int × List (List D)) => ((n : Int) - i.1).toNat) ?_
  rintro ⟨k, X⟩ h_inv ih
  try dsimp only at h_inv
  replace ih := fun (v0 : Int) (v1 : List (List D)) => ih (v0, v1)
  try dsimp only at ih
  show VC.holds _ _ _ (a_lOwn.round s_lOwn 400 0 (F_lo0 p l X n k))
  rw [t_lo0]
  try simp only [asRows_sl, asInt_int, asBool_bool, asStr_str, listOf_rowsOn, List.drop_zero, Prg.eta, Sta.eta, rowsOn_length, getD_drop, Nat.reduceAdd, rd_int, rd_PMem_name, rd_PMem_secret, rd_PMem_n, rd_PLabel_name, rd_PLabel_at_, rd_Ins_kind, rd_Ins_op, rd_Ins_d, rd_Ins_aR, rd_Ins_aN, rd_Ins_bR, rd_Ins_bN, rd_Ins_name, rd_Ins_target, rd_Ent_pc, rd_Ent_val, rd_Ent_addr, rd_Ent_fro, rd_Ent_next, rd_Ent_done, rd_Ent_known, rd_Ent_fault, rd_Place_reg, rd_Place_n, rd_Place_secret, rd_Obs_kind, rd_Obs_at_, rd_Dir_kind, rd_Dir_n]
  obtain ⟨h0, h1, xs, h2⟩ := h_inv
  have hc := places_len p hm
  have e0 := h2.2
  have w1 : IntKind.wrap .i64 (k + 1) = k + 1 := wrap_small _ (by omega) (by omega)
  obtain ⟨s, hs0, hs1, hs2, hs3, hs4, hs5⟩ := start_hold p hm xs (by omega)
  have hs : SmallS s := ⟨by omega, by rw [hs2]; decide⟩
  have hX := h2.1
  simp only [Prg.of_cells, Sta.of_cells, v_aStart, v_aCode, v_aLow, w1]
  repeat' first
    | refine br_not ?_
    | refine br_dec (fun _ => ?_) (fun _ => ?_)
    | refine br_beq (fun _ => ?_) (fun _ => ?_)
    | refine br_bne (fun _ => ?_) (fun _ => ?_)
    | refine br_holds (fun _ => ?_) (fun _ => ?_)
    | refine ⟨PreOk.mk ?_ rfl, ?_⟩
    | refine ⟨idx_ok _ _ _ rfl (by omega) (by omega), ?_⟩
    | refine ⟨okSh_ok _ _ _ (fun _ => rfl) (by omega) (by omega), ?_⟩
    | refine ⟨okSh_okD _ _ _ _ (fun _ => rfl) (by omega) (by omega), ?_⟩
    | refine ⟨aload_ok _ _ rfl (fun _ => rfl) (by omega) (by omega), ?_⟩
    | refine ⟨aload_okD _ _ _ rfl (fun _ => rfl) (by omega) (by omega), ?_⟩
    | refine ⟨astore_ok (by assumption) rfl (by omega) (by omega) (by decide), ?_⟩
    | refine ⟨app_ok (by assumption) rfl rfl (by simp only [List.length_cons, List.length_nil]; omega), ?_⟩
    | refine need_holds ?_ fun _ => ?_
    | refine all_holds fun y hy => ?_
    | refine ret_le ?_
    | refine ih _ _ ?_ ?_
  all_goals try omega
  · exact ⟨by omega, by omega, _, h2.set h0 (by omega) _⟩
  · exact ⟨by omega, by omega, xs, h2⟩
  all_goals subst hX
  all_goals simp only [listOf_rowsOn] at *
  all_goals subst_vars
  all_goals try exact hm
  all_goals try exact by_rows _
  all_goals try (rw [hs0]; exact hs)
  all_goals try (exfalso; simp_all; done)
  · exact PreOk.mk hm rfl
  · rw [hs0]
    exact l_lo1 p xs _ _ s s hm hs0 hs1 hs2 hs2 h2.2 (by dsimp only; omega) (0, _) ⟨by simp, by simp, s.mem, ⟨rfl, rfl⟩⟩
theorem c_lOwn_good : c_lOwn.fe.Good Try.prog := by
  refine FT.good c_lOwn ⟨Try.f8, by kernel_rfl, by decide +kernel, by kernel_rfl⟩ (fun ⟨m, l⟩ => by first | rfl | simp [c_lOwn, rrRef, rnum, rby, rss, rnewI, rnewE, rstab, rplaces, ri, rb, rib, Sta.fresh]) fun ⟨m, l⟩ hp => ?_
  refine acalls_le s_lOwn_sound (fn := Try.f8) (a := a_lOwn) (nargs := 2) (tbl := [(4, [1, 5, 6, 23, 24]), (15, [5, 6, 8, 10, 12, 62, 63])]) (by kernel_rfl) (by kernel_rfl) rfl (m := 400) ?_
  show VC.holds _ _ _ (a_lOwn.start s_lOwn 400 [al m, al l])
  rw [t_lOwn]
  try simp only [asRows_sl, asInt_int, asBool_bool, asStr_str, listOf_rowsOn, List.drop_zero, Prg.eta, Sta.eta, rowsOn_length, getD_drop, Nat.reduceAdd, rd_int, rd_PMem_name, rd_PMem_secret, rd_PMem_n, rd_PLabel_name, rd_PLabel_at_, rd_Ins_kind, rd_Ins_op, rd_Ins_d, rd_Ins_aR, rd_Ins_aN, rd_Ins_bR, rd_Ins_bN, rd_Ins_name, rd_Ins_target, rd_Ent_pc, rd_Ent_val, rd_Ent_addr, rd_Ent_fro, rd_Ent_next, rd_Ent_done, rd_Ent_known, rd_Ent_fault, rd_Place_reg, rd_Place_n, rd_Place_secret, rd_Obs_kind, rd_Obs_at_, rd_Dir_kind, rd_Dir_n]
  try simp only [c_lOwn] at hp
  refine ⟨PreOk.mk trivial rfl, all_holds fun p hp0 => ?_⟩
  have hw : WFM p := by rw [hp0]; exact (makeS_spec _).1
  have hm := hw.toMems
  have hc := places_len p hm
  clear hp0
  repeat' first
    | refine br_not ?_
    | refine br_dec (fun _ => ?_) (fun _ => ?_)
    | refine br_beq (fun _ => ?_) (fun _ => ?_)
    | refine br_bne (fun _ => ?_) (fun _ => ?_)
    | refine br_holds (fun _ => ?_) (fun _ => ?_)
    | refine ⟨PreOk.mk ?_ rfl, ?_⟩
    | refine ⟨idx_ok _ _ _ rfl (by omega) (by omega), ?_⟩
    | refine ⟨okSh_ok _ _ _ (fun _ => rfl) (by omega) (by omega), ?_⟩
    | refine ⟨okSh_okD _ _ _ _ (fun _ => rfl) (by omega) (by omega), ?_⟩
    | refine ⟨aload_ok _ _ rfl (fun _ => rfl) (by omega) (by omega), ?_⟩
    | refine ⟨aload_okD _ _ _ rfl (fun _ => rfl) (by omega) (by omega), ?_⟩
    | refine ⟨astore_ok (by assumption) rfl (by omega) (by omega) (by decide), ?_⟩
    | refine ⟨app_ok (by assumption) rfl rfl (by simp only [List.length_cons, List.length_nil]; omega), ?_⟩
    | refine need_holds ?_ fun _ => ?_
    | refine all_holds fun y hy => ?_
    | refine ret_le ?_
  · exact hm
  · subst_vars
    simp only [v_rPlaces]
    exact ⟨trivial, by omega, by omega⟩
  · subst_vars
    exact l_lo0 p l _ hm (by simp [v_rPlaces]) (0, _) ⟨by simp, by simp, _, OnL.rep _ (0 : Int)⟩
end Go.Proofs.Ytclabjihjopclaa.Ax
