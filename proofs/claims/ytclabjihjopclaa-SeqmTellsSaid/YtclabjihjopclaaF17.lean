/- One by one, by the document: runs; observations compared. -/
import Derived.Test.YtclabjihjopclaaF16
namespace Go.Proofs.Ytclabjihjopclaa.Ax
open Go.RowKit
set_option linter.unusedVariables false
set_option linter.unusedSimpArgs false
def c_rRun : FT (Prg × Sta × Int) := ⟨63, fun x => [ap x.1, as_ x.2.1, ai x.2.2], rdPSI, fun x => PrgOk x.1 ∧ StaOk x.1 x.2.1 ∧ x.2.2 ≤ 1000000, fun x => rrun (runS x.1 x.2.2.toNat x.2.1), true, fun x => by simp [ap, as_, ai, rdPSI]⟩
noncomputable def a_rRun : FnA := (fnA Try.prog Try.f63 3 [(3, [2, 3, 4, 6, 10, 11, 1000010000000900003002])]).getD ⟨0, .skip, [], []⟩
noncomputable def s_rRun : Sp := spT [c_rStep.gfe v_rStep sh_rStep e_rStep]
theorem s_rRun_sound : s_rRun.sound Try.prog := spT_sound fun e he => by
  simp only [List.mem_cons, List.not_mem_nil, or_false] at he
  rcases he with rfl
  · exact FT.gfe_good c_rStep_good
def F_rRun (p : Prg) (s : Sta) (n d : Int) (R : List (List D)) (m : Nat) : St := ⟨mkS 42 [(2, vi n), (3, vp 192), (4, vp 256), (6, vp 384), (10, vo 900003 m), (11, vi d)], [(192, bx p.cells), (256, bx s.cells), (384, bc [.d (.int .i64 0), .d (.int .i64 0), .d (.int .i64 0), .d (.int .i64 0), .nil, .nil, .d (.int .i64 0)]), (900003, ba 2 R)]⟩
set_option maxRecDepth 100000 in
theorem t_rRun (p : Prg) (s : Sta) (n : Int) : a_rRun.start s_rRun 400 [ap p, as_ s, ai n] =
(FnA.at_ a_rRun 0 (F_rRun p s n (0 : Int) [] (0 : Nat))) := by kernel_rfl
set_option maxRecDepth 100000 in
theorem t_rRun0 (p : Prg) (s : Sta) (n d : Int) (R : List (List D)) (m : Nat) : a_rRun.round s_rRun 400 0 (F_rRun p s n d R m) =
(VC.br (decide (d < n))
 (VC.need (PreOk c_rStep (Prg.of (Prg.cells p), Sta.of (Sta.cells s)) [A.agg (Prg.cells p), A.agg (Sta.cells s)])
 (VC.all (v_rStep (Prg.of (Prg.cells p), Sta.of (Sta.cells s))) fun (y6 : Sta × List Obs × Int) =>
 (VC.need ((List.all (rowsOn y6.snd.fst) fun r ↦ List.length r == (2 : Nat)) = true ∧ (List.all R fun r ↦ List.length r == (2 : Nat)) = true ∧ (List.length R + List.length (rowsOn y6.snd.fst) + (100 : Nat)) * (17 : Nat) ≤ (70368744177664 : Nat))
 (VC.br (y6.snd.snd != (0 : Int))
  (VC.ret (some (RR.tup [Sum.inr [Rc.d (D.int IntKind.i64 y6.fst.r0), Rc.d (D.int IntKind.i64 y6.fst.r1), Rc.d (D.int IntKind.i64 y6.fst.r2), Rc.d (D.int IntKind.i64 y6.fst.r3), Rc.d (D.sl (rowsOn y6.fst.mem)), Rc.d (D.sl (rowsOn y6.fst.stack)), Rc.d (D.int IntKind.i64 y6.fst.pc)], Sum.inl (Rc.new (2 : Nat) (R ++ rowsOn y6.snd.fst)), Sum.inl (Rc.d (D.int IntKind.i64 (IntKind.wrap IntKind.i64 (d + (1 : Int))))), Sum.inl (Rc.d (D.int IntKind.i64 y6.snd.snd))])))
  (FnA.at_ a_rRun 0 (F_rRun p y6.fst n (IntKind.wrap IntKind.i64 (d + (1 : Int))) (R ++ rowsOn y6.snd.fst) (List.length R + List.length (rowsOn y6.snd.fst))))))))
 (VC.ret (some (RR.tup [Sum.inr [Rc.d (D.int IntKind.i64 s.r0), Rc.d (D.int IntKind.i64 s.r1), Rc.d (D.int IntKind.i64 s.r2), Rc.d (D.int IntKind.i64 s.r3), Rc.d (D.sl (rowsOn s.mem)), Rc.d (D.sl (rowsOn s.stack)), Rc.d (D.int IntKind.i64 s.pc)], Sum.inl (Rc.new (2 : Nat) R), Sum.inl (Rc.d (D.int IntKind.i64 (max n (0 : Int)))), Sum.inl (Rc.d (D.int IntKind.i64 (0 : Int)))])))) := by kernel_rfl
theorem l_rRun0 (p : Prg) (n : Int) (fin : Sta × List Obs × Int × Int) (hp0 : PrgOk p) (hn : n ≤ 1000000) : ∀ i : Sta × Int × List (List D) × Nat, (fun (i : Sta × Int × List (List D) × Nat) => StaOk p i.1 ∧ 0 ≤ i.2.1 ∧ i.2.1 ≤ max n 0 ∧ ∃ acc : List Obs, OnL i.2.2.1 i.2.2.2 acc ∧ acc.length ≤ i.2.1 ∧ comb acc i.2.1 (runS p (n - i.2.1).toNat i.1) = fin) i → (a_rRun.at_ 0 ((fun (i : Sta × Int × List (List D) × Nat) => F_rRun p i.1 n i.2.1 i.2.2.1 i.2.2.2) i)).holds s_rRun.cx a_rRun.rs (fun r => r.data.le (rrun fin)) := by
  refine loop_rule (a := a_rRun) (j := 0) (m := 400) s_rRun_sound (fun (i : Sta × Int × List (List D) × Nat) => F_rRun p i.1 n i.2.1 i.2.2.1 i.2.2.2) (fun (i : Sta × Int × List (List D) × Nat) => StaOk p i.1 ∧ 0 ≤ i.2.1 ∧ i.2.1 ≤ max n 0 ∧ ∃ acc : List Obs, OnL i.2.2.1 i.2.2.2 acc ∧ acc.length ≤ i.2.1 ∧ comb acc i.2.1 (runS p (n - i.2.1).toNat i.1) = fin) (fun (i : Sta × Int × List (List D) × Nat) => (n - i.2.1).toNat) ?_
  rintro ⟨s, d, R, m⟩ h_inv ih
  try dsimp only at h_inv
  replace ih := fun (v0 : Sta) (v1 : Int) (v2 : List (List D)) (v3 : Nat) => ih (v0, v1, v2, v3)
  try dsimp only at ih
  show VC.holds _ _ _ (a_rRun.round s_rRun 400 0 (F_rRun p s n d R m))
  rw [t_rRun0]
  try simp only [asRows_sl, asInt_int, asBool_bool, asStr_str, listOf_rowsOn, List.drop_zero, Prg.eta, Sta.eta, rowsOn_length, getD_drop, Nat.reduceAdd, rd_int, rd_PMem_name, rd_PMem_secret, rd_PMem_n, rd_PLabel_name, rd_PLabel_at_, rd_Ins_kind, rd_Ins_op, rd_Ins_d, rd_Ins_aR, rd_Ins_aN, rd_Ins_bR, rd_Ins_bN, rd_Ins_name, rd_Ins_target, rd_Ent_pc, rd_Ent_val, rd_Ent_addr, rd_Ent_fro, rd_Ent_next, rd_Ent_done, rd_Ent_known, rd_Ent_fault, rd_Place_reg, rd_Place_n, rd_Place_secret, rd_Obs_kind, rd_Obs_at_, rd_Dir_kind, rd_Dir_n, Prg.of_cells, Sta.of_cells]
  obtain ⟨hs, h0, h1, acc, h2, h3, h4⟩ := h_inv
  have w1 : IntKind.wrap .i64 (d + 1) = d + 1 := wrap_small _ (by omega) (by omega)
  rw [w1]
  have hol := (step_len p s).2.2
  have e2 := h2.2
  have e1 := h2.1
  refine br_dec (fun hd => ?_) (fun hd => ?_)
  · obtain ⟨k, hk⟩ : ∃ k, (n - d).toNat = k + 1 := ⟨(n - d).toNat - 1, by omega⟩
    rw [hk] at h4
    refine ⟨PreOk.mk ⟨hp0, hs⟩ rfl, all_holds fun y hy => ?_⟩
    replace hy : y = stepS p s := hy
    subst hy
    refine ⟨⟨all2 _ rfl, by rw [e1]; exact all2 _ rfl, by rw [e1]; simp only [rowsOn_length]; omega⟩, ?_⟩
    refine br_bne (fun h => ?_) (fun h => ?_)
    · refine ret_leD (rrun_le (h2.app _) ?_)
      rw [← h4, runS_stop h]
      rfl
    · rw [runS_go h] at h4
      refine ih _ _ _ _ ⟨step_ok hp0 hs, by omega, by omega, _, h2.app2 _, by simp only [List.length_append]; omega, ?_⟩ (by omega)
      rw [← h4, show (n - (d + 1)).toNat = k by omega]
      simp [comb, List.append_assoc]
      omega
  · refine ret_leD (rrun_le h2 ?_)
    have hk : (n - d).toNat = 0 := by omega
    have hx : max n 0 = d := by omega
    rw [← h4, hk, hx]
    simp [comb, runS]
theorem c_rRun_good : c_rRun.fe.Good Try.prog := by
  refine FT.good c_rRun ⟨Try.f63, by kernel_rfl, by decide +kernel, by kernel_rfl⟩ (fun ⟨p, s, n⟩ => by first | rfl | simp [c_rRun, rrRef, rrun, rstep, rins, rnum, rby, rss, rnewI, rnewE, rstab, rplaces, ri, rb, rib, Sta.fresh]) fun ⟨p, s, n⟩ hp => ?_
  refine acalls_leD s_rRun_sound (fn := Try.f63) (a := a_rRun) (nargs := 3) (tbl := [(3, [2, 3, 4, 6, 10, 11, 1000010000000900003002])]) (by kernel_rfl) (by kernel_rfl) rfl (m := 400) ?_
  show VC.holds _ _ _ (a_rRun.start s_rRun 400 [ap p, as_ s, ai n])
  rw [t_rRun]
  try simp only [asRows_sl, asInt_int, asBool_bool, asStr_str, listOf_rowsOn, List.drop_zero, Prg.eta, Sta.eta, rowsOn_length, getD_drop, Nat.reduceAdd, rd_int, rd_PMem_name, rd_PMem_secret, rd_PMem_n, rd_PLabel_name, rd_PLabel_at_, rd_Ins_kind, rd_Ins_op, rd_Ins_d, rd_Ins_aR, rd_Ins_aN, rd_Ins_bR, rd_Ins_bN, rd_Ins_name, rd_Ins_target, rd_Ent_pc, rd_Ent_val, rd_Ent_addr, rd_Ent_fro, rd_Ent_next, rd_Ent_done, rd_Ent_known, rd_Ent_fault, rd_Place_reg, rd_Place_n, rd_Place_secret, rd_Obs_kind, rd_Obs_at_, rd_Dir_kind, rd_Dir_n, Prg.of_cells, Sta.of_cells]
  try simp only [c_rRun] at hp
  obtain ⟨hp0, hs, hn⟩ := hp
  refine l_rRun0 p n _ hp0 hn (s, 0, [], 0) ⟨hs, by simp, by dsimp only; omega, [], OnL.nil, by simp, ?_⟩
  rw [comb_nil]
  simp
theorem Obs.eq_iff {a b : Obs} : a = b ↔ a.kind = b.kind ∧ a.at_ = b.at_ := by
  obtain ⟨_, _⟩ := a
  obtain ⟨_, _⟩ := b
  simp
def rdOO : List A → List Obs × List Obs
  | [.c (.sl r), .c (.sl s)] => (listOf Obs r, listOf Obs s)
  | _ => default
def ao (l : List Obs) : A := .c (.sl (rowsOn l))
def c_rSameO : FT (List Obs × List Obs) := ⟨60, fun x => [ao x.1, ao x.2], rdOO, fun x => x.1.length ≤ 1000000000, fun x => rb (decide (x.1 = x.2)), false, fun x => by simp [ao, rdOO]⟩
noncomputable def a_rSameO : FnA := (fnA Try.prog Try.f60 2 [(4, [0, 1, 5])]).getD ⟨0, .skip, [], []⟩
def s_rSameO : Sp := spT []
theorem s_rSameO_sound : s_rSameO.sound Try.prog := spT_sound fun e he => by cases he
def F_rSameO (a b : List Obs) (k : Int) : St := ⟨mkS 26 [(0, vr (rowsOn a)), (1, vr (rowsOn b)), (5, vi k)], []⟩
set_option maxRecDepth 100000 in
theorem t_rSameO (a b : List Obs) : a_rSameO.start s_rSameO 400 [ao a, ao b] =
(VC.br ((↑(List.length (rowsOn a)) : Int) != (↑(List.length (rowsOn b)) : Int))
 (VC.ret (some (RR.c (Rc.d (D.bool false)))))
 (FnA.at_ a_rSameO 0 (F_rSameO a b (0 : Int)))) := by kernel_rfl
set_option maxRecDepth 100000 in
theorem t_rSameO0 (a b : List Obs) (k : Int) : a_rSameO.round s_rSameO 400 0 (F_rSameO a b k) =
(VC.br (decide (k < (↑(List.length (rowsOn a)) : Int)))
 (VC.need ((0 : Int) ≤ k ∧ k < (↑(List.length (rowsOn a)) : Int) ∧ List.length (rowAt (rowsOn a) (Int.toNat k)) = (2 : Nat))
 (VC.need (okSh [Kd.int IntKind.i64, Kd.int IntKind.i64] (rowAt (rowsOn a) (Int.toNat k)))
 (VC.need ((0 : Int) ≤ k ∧ k < (↑(List.length (rowsOn b)) : Int) ∧ List.length (rowAt (rowsOn b) (Int.toNat k)) = (2 : Nat))
 (VC.need (okSh [Kd.int IntKind.i64, Kd.int IntKind.i64] (rowAt (rowsOn b) (Int.toNat k)))
 (VC.br (if true = true then !(asInt (List.getD (rowAt (rowsOn a) (Int.toNat k)) (0 : Nat) D.nilp) == asInt (List.getD (rowAt (rowsOn b) (Int.toNat k)) (0 : Nat) D.nilp) && (asInt (List.getD (rowAt (rowsOn a) (Int.toNat k)) (1 : Nat) D.nilp) == asInt (List.getD (rowAt (rowsOn b) (Int.toNat k)) (1 : Nat) D.nilp) && true)) else asInt (List.getD (rowAt (rowsOn a) (Int.toNat k)) (0 : Nat) D.nilp) == asInt (List.getD (rowAt (rowsOn b) (Int.toNat k)) (0 : Nat) D.nilp) && (asInt (List.getD (rowAt (rowsOn a) (Int.toNat k)) (1 : Nat) D.nilp) == asInt (List.getD (rowAt (rowsOn b) (Int.toNat k)) (1 : Nat) D.nilp) && true))
  (VC.ret (some (RR.c (Rc.d (D.bool false)))))
  (FnA.at_ a_rSameO 0 (F_rSameO a b (IntKind.wrap IntKind.i64 (k + (1 : Int))))))))))
 (VC.ret (some (RR.c (Rc.d (D.bool true)))))) := by kernel_rfl
theorem l_rSameO0 (a b : List Obs) (res : Bool) (hl : a.length = b.length) (hb : a.length ≤ 1000000000) : ∀ i : Int, (fun (i : Int) => 0 ≤ i ∧ i ≤ a.length ∧ decide (a.drop i.toNat = b.drop i.toNat) = res) i → (a_rSameO.at_ 0 ((fun (i : Int) => F_rSameO a b i) i)).holds s_rSameO.cx a_rSameO.rs (fun r => r.le (rb res)) := by
  refine loop_rule (a := a_rSameO) (j := 0) (m := 400) s_rSameO_sound (fun (i : Int) => F_rSameO a b i) (fun (i : Int) => 0 ≤ i ∧ i ≤ a.length ∧ decide (a.drop i.toNat = b.drop i.toNat) = res) (fun (i : Int) => ((a.length : Int) - i).toNat) ?_
  rintro k h_inv ih
  try dsimp only at h_inv
  show VC.holds _ _ _ (a_rSameO.round s_rSameO 400 0 (F_rSameO a b k))
  rw [t_rSameO0]
  try simp only [asRows_sl, asInt_int, asBool_bool, asStr_str, listOf_rowsOn, List.drop_zero, Prg.eta, Sta.eta, rowsOn_length, getD_drop, Nat.reduceAdd, rd_int, rd_PMem_name, rd_PMem_secret, rd_PMem_n, rd_PLabel_name, rd_PLabel_at_, rd_Ins_kind, rd_Ins_op, rd_Ins_d, rd_Ins_aR, rd_Ins_aN, rd_Ins_bR, rd_Ins_bN, rd_Ins_name, rd_Ins_target, rd_Ent_pc, rd_Ent_val, rd_Ent_addr, rd_Ent_fro, rd_Ent_next, rd_Ent_done, rd_Ent_known, rd_Ent_fault, rd_Place_reg, rd_Place_n, rd_Place_secret, rd_Obs_kind, rd_Obs_at_, rd_Dir_kind, rd_Dir_n, Prg.of_cells, Sta.of_cells]
  obtain ⟨h0, h1, h2⟩ := h_inv
  have w1 : IntKind.wrap .i64 (k + 1) = k + 1 := wrap_small _ (by omega) (by omega)
  rw [w1]
  refine br_dec (fun hk => ?_) (fun hk => ?_)
  · refine ⟨idx_ok _ _ _ rfl (by omega) (by omega), ⟨okSh_ok _ _ _ (fun _ => rfl) (by omega) (by omega), ⟨idx_ok _ _ _ rfl (by omega) (by omega), ⟨okSh_ok _ _ _ (fun _ => rfl) (by omega) (by omega), ?_⟩⟩⟩⟩
    refine br_holds (fun h => ?_) (fun h => ?_)
    · refine ret_le (rb_le ?_)
      have hne : ¬ rd a k = rd b k := fun he => by rw [he] at h; simp at h
      rw [← h2]
      exact (decide_eq_false fun h => absurd ((eq_dropG hl h0 hk).1 h).1 hne).symm
    · have he : rd a k = rd b k := Obs.eq_iff.2 (by simpa using h)
      refine ih _ ⟨by omega, by omega, ?_⟩ (by omega)
      rw [← h2]
      exact decide_eq_decide.2 ⟨fun h => (eq_dropG hl h0 hk).2 ⟨he, h⟩, fun h => ((eq_dropG hl h0 hk).1 h).2⟩
  · refine ret_le (rb_le ?_)
    have hk : k.toNat = a.length := by omega
    rw [← h2, hk, List.drop_length, hl, List.drop_length]
    rfl
theorem c_rSameO_good : c_rSameO.fe.Good Try.prog := by
  refine FT.good c_rSameO ⟨Try.f60, by kernel_rfl, by decide +kernel, by kernel_rfl⟩ (fun ⟨a, b⟩ => by first | rfl | simp [c_rSameO, rrRef, rrun, rstep, rins, rnum, rby, rss, rnewI, rnewE, rstab, rplaces, ri, rb, rib, Sta.fresh]) fun ⟨a, b⟩ hp => ?_
  refine acalls_le s_rSameO_sound (fn := Try.f60) (a := a_rSameO) (nargs := 2) (tbl := [(4, [0, 1, 5])]) (by kernel_rfl) (by kernel_rfl) rfl (m := 400) ?_
  show VC.holds _ _ _ (a_rSameO.start s_rSameO 400 [ao a, ao b])
  rw [t_rSameO]
  try simp only [asRows_sl, asInt_int, asBool_bool, asStr_str, listOf_rowsOn, List.drop_zero, Prg.eta, Sta.eta, rowsOn_length, getD_drop, Nat.reduceAdd, rd_int, rd_PMem_name, rd_PMem_secret, rd_PMem_n, rd_PLabel_name, rd_PLabel_at_, rd_Ins_kind, rd_Ins_op, rd_Ins_d, rd_Ins_aR, rd_Ins_aN, rd_Ins_bR, rd_Ins_bN, rd_Ins_name, rd_Ins_target, rd_Ent_pc, rd_Ent_val, rd_Ent_addr, rd_Ent_fro, rd_Ent_next, rd_Ent_done, rd_Ent_known, rd_Ent_fault, rd_Place_reg, rd_Place_n, rd_Place_secret, rd_Obs_kind, rd_Obs_at_, rd_Dir_kind, rd_Dir_n, Prg.of_cells, Sta.of_cells]
  try simp only [c_rSameO] at hp
  repeat' first
    | refine br_not ?_
    | refine br_dec (fun _ => ?_) (fun _ => ?_)
    | refine br_beq (fun _ => ?_) (fun _ => ?_)
    | refine br_bne (fun _ => ?_) (fun _ => ?_)
    | refine br_holds (fun _ => ?_) (fun _ => ?_)
    | refine ⟨PreOk.mk ?_ rfl, ?_⟩
    | refine ⟨idx_ok _ _ _ rfl (by omega) (by omega), ?_⟩
    | refine ⟨okSh_ok _ _ _ (fun _ => rfl) (by omega) (by omega), ?_⟩
    | refine ⟨okSh_okD _ _ _ _ (fun _ => rfl) (by omega) (by omega), ?_⟩
    | refine ⟨aload_ok _ _ rfl (fun _ => rfl) (by omega) (by omega), ?_⟩
    | refine ⟨aload_okD _ _ _ rfl (fun _ => rfl) (by omega) (by omega), ?_⟩
    | refine ⟨astore_ok (by assumption) rfl (by omega) (by omega) (by decide), ?_⟩
    | refine ⟨app_ok (by assumption) rfl rfl (by simp only [List.length_cons, List.length_nil]; omega), ?_⟩
    | refine need_holds ?_ fun _ => ?_
    | refine all_holds fun y hy => ?_
    | refine ret_le ?_
  · have e : c_rSameO.ans (a, b) = rb (decide (a = b)) := rfl
    rw [e]
    exact l_rSameO0 a b _ (by omega) hp 0 ⟨by omega, by omega, by simp⟩
  · exact rb_le (decide_eq_false fun h => by have h : a = b := h; subst h; omega).symm
def c_eqO : FT (List Obs × List Obs) := ⟨112, fun x => [ao x.1, ao x.2], rdOO, fun x => x.1.length ≤ 1000000000, fun x => rb (decide (x.1 = x.2)), false, fun x => by simp [ao, rdOO]⟩
noncomputable def a_eqO : FnA := (fnA Try.prog Try.f112 2 [(4, [0, 1, 12, 13])]).getD ⟨0, .skip, [], []⟩
def s_eqO : Sp := spT []
theorem s_eqO_sound : s_eqO.sound Try.prog := spT_sound fun e he => by cases he
def F_eqO (a b : List Obs) (k : Int) : St := ⟨mkS 26 [(0, vr (rowsOn a)), (1, vr (rowsOn b)), (12, vi (rowsOn a).length), (13, vi k)], []⟩
set_option maxRecDepth 100000 in
theorem t_eqO (a b : List Obs) : a_eqO.start s_eqO 400 [ao a, ao b] =
(VC.br ((↑(List.length (rowsOn a)) : Int) != (↑(List.length (rowsOn b)) : Int))
 (VC.ret (some (RR.c (Rc.d (D.bool false)))))
 (FnA.at_ a_eqO 0 (F_eqO a b (0 : Int)))) := by kernel_rfl
set_option maxRecDepth 100000 in
theorem t_eqO0 (a b : List Obs) (k : Int) : a_eqO.round s_eqO 400 0 (F_eqO a b k) =
(VC.br (decide (k < (↑(List.length (rowsOn a)) : Int)))
 (VC.need ((0 : Int) ≤ k ∧ k < (↑(List.length (rowsOn a)) : Int) ∧ List.length (rowAt (rowsOn a) (Int.toNat k)) = (2 : Nat))
 (VC.need (okSh [Kd.int IntKind.i64, Kd.int IntKind.i64] (rowAt (rowsOn a) (Int.toNat k)))
 (VC.need ((0 : Int) ≤ k ∧ k < (↑(List.length (rowsOn b)) : Int) ∧ List.length (rowAt (rowsOn b) (Int.toNat k)) = (2 : Nat))
 (VC.need (okSh [Kd.int IntKind.i64, Kd.int IntKind.i64] (rowAt (rowsOn b) (Int.toNat k)))
 (VC.br (if true = true then !(asInt (List.getD (rowAt (rowsOn a) (Int.toNat k)) (0 : Nat) D.nilp) == asInt (List.getD (rowAt (rowsOn b) (Int.toNat k)) (0 : Nat) D.nilp) && (asInt (List.getD (rowAt (rowsOn a) (Int.toNat k)) (1 : Nat) D.nilp) == asInt (List.getD (rowAt (rowsOn b) (Int.toNat k)) (1 : Nat) D.nilp) && true)) else asInt (List.getD (rowAt (rowsOn a) (Int.toNat k)) (0 : Nat) D.nilp) == asInt (List.getD (rowAt (rowsOn b) (Int.toNat k)) (0 : Nat) D.nilp) && (asInt (List.getD (rowAt (rowsOn a) (Int.toNat k)) (1 : Nat) D.nilp) == asInt (List.getD (rowAt (rowsOn b) (Int.toNat k)) (1 : Nat) D.nilp) && true))
  (VC.ret (some (RR.c (Rc.d (D.bool false)))))
  (FnA.at_ a_eqO 0 (F_eqO a b (IntKind.wrap IntKind.i64 (k + (1 : Int))))))))))
 (VC.ret (some (RR.c (Rc.d (D.bool true)))))) := by kernel_rfl
theorem l_eqO0 (a b : List Obs) (res : Bool) (hl : a.length = b.length) (hb : a.length ≤ 1000000000) : ∀ i : Int, (fun (i : Int) => 0 ≤ i ∧ i ≤ a.length ∧ decide (a.drop i.toNat = b.drop i.toNat) = res) i → (a_eqO.at_ 0 ((fun (i : Int) => F_eqO a b i) i)).holds s_eqO.cx a_eqO.rs (fun r => r.le (rb res)) := by
  refine loop_rule (a := a_eqO) (j := 0) (m := 400) s_eqO_sound (fun (i : Int) => F_eqO a b i) (fun (i : Int) => 0 ≤ i ∧ i ≤ a.length ∧ decide (a.drop i.toNat = b.drop i.toNat) = res) (fun (i : Int) => ((a.length : Int) - i).toNat) ?_
  rintro k h_inv ih
  try dsimp only at h_inv
  show VC.holds _ _ _ (a_eqO.round s_eqO 400 0 (F_eqO a b k))
  rw [t_eqO0]
  try simp only [asRows_sl, asInt_int, asBool_bool, asStr_str, listOf_rowsOn, List.drop_zero, Prg.eta, Sta.eta, rowsOn_length, getD_drop, Nat.reduceAdd, rd_int, rd_PMem_name, rd_PMem_secret, rd_PMem_n, rd_PLabel_name, rd_PLabel_at_, rd_Ins_kind, rd_Ins_op, rd_Ins_d, rd_Ins_aR, rd_Ins_aN, rd_Ins_bR, rd_Ins_bN, rd_Ins_name, rd_Ins_target, rd_Ent_pc, rd_Ent_val, rd_Ent_addr, rd_Ent_fro, rd_Ent_next, rd_Ent_done, rd_Ent_known, rd_Ent_fault, rd_Place_reg, rd_Place_n, rd_Place_secret, rd_Obs_kind, rd_Obs_at_, rd_Dir_kind, rd_Dir_n, Prg.of_cells, Sta.of_cells]
  obtain ⟨h0, h1, h2⟩ := h_inv
  have w1 : IntKind.wrap .i64 (k + 1) = k + 1 := wrap_small _ (by omega) (by omega)
  rw [w1]
  refine br_dec (fun hk => ?_) (fun hk => ?_)
  · refine ⟨idx_ok _ _ _ rfl (by omega) (by omega), ⟨okSh_ok _ _ _ (fun _ => rfl) (by omega) (by omega), ⟨idx_ok _ _ _ rfl (by omega) (by omega), ⟨okSh_ok _ _ _ (fun _ => rfl) (by omega) (by omega), ?_⟩⟩⟩⟩
    refine br_holds (fun h => ?_) (fun h => ?_)
    · refine ret_le (rb_le ?_)
      have hne : ¬ rd a k = rd b k := fun he => by rw [he] at h; simp at h
      rw [← h2]
      exact (decide_eq_false fun h => absurd ((eq_dropG hl h0 hk).1 h).1 hne).symm
    · have he : rd a k = rd b k := Obs.eq_iff.2 (by simpa using h)
      refine ih _ ⟨by omega, by omega, ?_⟩ (by omega)
      rw [← h2]
      exact decide_eq_decide.2 ⟨fun h => (eq_dropG hl h0 hk).2 ⟨he, h⟩, fun h => ((eq_dropG hl h0 hk).1 h).2⟩
  · refine ret_le (rb_le ?_)
    have hk : k.toNat = a.length := by omega
    rw [← h2, hk, List.drop_length, hl, List.drop_length]
    rfl
theorem c_eqO_good : c_eqO.fe.Good Try.prog := by
  refine FT.good c_eqO ⟨Try.f112, by kernel_rfl, by decide +kernel, by kernel_rfl⟩ (fun ⟨a, b⟩ => by first | rfl | simp [c_eqO, rrRef, rrun, rstep, rins, rnum, rby, rss, rnewI, rnewE, rstab, rplaces, ri, rb, rib, Sta.fresh]) fun ⟨a, b⟩ hp => ?_
  refine acalls_le s_eqO_sound (fn := Try.f112) (a := a_eqO) (nargs := 2) (tbl := [(4, [0, 1, 12, 13])]) (by kernel_rfl) (by kernel_rfl) rfl (m := 400) ?_
  show VC.holds _ _ _ (a_eqO.start s_eqO 400 [ao a, ao b])
  rw [t_eqO]
  try simp only [asRows_sl, asInt_int, asBool_bool, asStr_str, listOf_rowsOn, List.drop_zero, Prg.eta, Sta.eta, rowsOn_length, getD_drop, Nat.reduceAdd, rd_int, rd_PMem_name, rd_PMem_secret, rd_PMem_n, rd_PLabel_name, rd_PLabel_at_, rd_Ins_kind, rd_Ins_op, rd_Ins_d, rd_Ins_aR, rd_Ins_aN, rd_Ins_bR, rd_Ins_bN, rd_Ins_name, rd_Ins_target, rd_Ent_pc, rd_Ent_val, rd_Ent_addr, rd_Ent_fro, rd_Ent_next, rd_Ent_done, rd_Ent_known, rd_Ent_fault, rd_Place_reg, rd_Place_n, rd_Place_secret, rd_Obs_kind, rd_Obs_at_, rd_Dir_kind, rd_Dir_n, Prg.of_cells, Sta.of_cells]
  try simp only [c_eqO] at hp
  repeat' first
    | refine br_not ?_
    | refine br_dec (fun _ => ?_) (fun _ => ?_)
    | refine br_beq (fun _ => ?_) (fun _ => ?_)
    | refine br_bne (fun _ => ?_) (fun _ => ?_)
    | refine br_holds (fun _ => ?_) (fun _ => ?_)
    | refine ⟨PreOk.mk ?_ rfl, ?_⟩
    | refine ⟨idx_ok _ _ _ rfl (by omega) (by omega), ?_⟩
    | refine ⟨okSh_ok _ _ _ (fun _ => rfl) (by omega) (by omega), ?_⟩
    | refine ⟨okSh_okD _ _ _ _ (fun _ => rfl) (by omega) (by omega), ?_⟩
    | refine ⟨aload_ok _ _ rfl (fun _ => rfl) (by omega) (by omega), ?_⟩
    | refine ⟨aload_okD _ _ _ rfl (fun _ => rfl) (by omega) (by omega), ?_⟩
    | refine ⟨astore_ok (by assumption) rfl (by omega) (by omega) (by decide), ?_⟩
    | refine ⟨app_ok (by assumption) rfl rfl (by simp only [List.length_cons, List.length_nil]; omega), ?_⟩
    | refine need_holds ?_ fun _ => ?_
    | refine all_holds fun y hy => ?_
    | refine ret_le ?_
  · have e : c_eqO.ans (a, b) = rb (decide (a = b)) := rfl
    rw [e]
    exact l_eqO0 a b _ (by omega) hp 0 ⟨by omega, by omega, by simp⟩
  · exact rb_le (decide_eq_false fun h => by have h : a = b := h; subst h; omega).symm
end Go.Proofs.Ytclabjihjopclaa.Ax
