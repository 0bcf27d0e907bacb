/- One by one: runs. -/
import Derived.Test.YtclabjihjopclaaF14
namespace Go.Proofs.Ytclabjihjopclaa.Ax
open Go.RowKit
set_option linter.unusedVariables false
set_option linter.unusedSimpArgs false
theorem setReg_mem' (s : Sta) (r n : Int) : (s.setReg r n).mem = s.mem ∧ (s.setReg r n).stack = s.stack := by
  unfold Sta.setReg
  repeat' split
  all_goals exact ⟨rfl, rfl⟩
theorem step_len (p : Prg) (s : Sta) : (stepS p s).1.mem.length = s.mem.length ∧ (stepS p s).1.stack.length ≤ max s.stack.length 4 ∧ (stepS p s).2.1.length ≤ 1 := by
  have hr := fun n => setReg_mem' s (atS p.ins s.pc).d n
  unfold stepS
  dsimp only
  repeat' split
  all_goals simp [hr]
  all_goals omega
theorem step_small {p : Prg} {s : Sta} (h : SmallS s) : SmallS (stepS p s).1 := by
  obtain ⟨h1, h2, h3⟩ := step_len p s
  obtain ⟨g1, g2⟩ := h
  exact ⟨by omega, by omega⟩
def comb (acc : List Obs) (d : Int) (r : Sta × List Obs × Int × Int) : Sta × List Obs × Int × Int := (r.1, acc ++ r.2.1, d + r.2.2.1, r.2.2.2)
theorem runS_stop {p : Prg} {n : Nat} {s : Sta} (h : (stepS p s).2.2 ≠ 0) : runS p (n + 1) s = ((stepS p s).1, (stepS p s).2.1, 1, (stepS p s).2.2) := by
  simp only [runS]
  rw [if_pos h]
theorem runS_go {p : Prg} {n : Nat} {s : Sta} (h : (stepS p s).2.2 = 0) : runS p (n + 1) s = ((runS p n (stepS p s).1).1, (stepS p s).2.1 ++ (runS p n (stepS p s).1).2.1, (runS p n (stepS p s).1).2.2.1 + 1, (runS p n (stepS p s).1).2.2.2) := by
  simp only [runS]
  rw [if_neg (fun hne => hne h)]
theorem comb_nil (r : Sta × List Obs × Int × Int) : comb [] 0 r = r := by simp [comb]
def rrun (x : Sta × List Obs × Int × Int) : RR := .tup [.inr (x.1.cells.map .d), .inl (.d (.sl (rowsOn x.2.1))), .inl (.d (.int .i64 x.2.2.1)), .inl (.d (.int .i64 x.2.2.2))]
def c_run : FT (Prg × Sta × Int) := ⟨55, fun x => [ap x.1, as_ x.2.1, ai x.2.2], rdPSI, fun x => Mems x.1.mems ∧ SmallS x.2.1 ∧ x.1.ins.length ≤ 1000000 ∧ x.2.2 ≤ 1000000, fun x => rrun (runS x.1 x.2.2.toNat x.2.1), true, fun x => by simp [ap, as_, ai, rdPSI]⟩
noncomputable def v_step : Prg × Sta → Sta × List Obs × Int := fun x => stepS x.1 x.2
noncomputable def sh_step : Sta × List Obs × Int → RR := fun x => rstep x
theorem e_step (x : Prg × Sta) : sh_step (v_step x) = c_step.ans x := rfl
noncomputable def a_run : FnA := (fnA Try.prog Try.f55 3 [(4, [2, 3, 4, 6, 10, 11, 1000010000000900003002])]).getD ⟨0, .skip, [], []⟩
noncomputable def s_run : Sp := spT [c_aStill.gfe v_aStill sh_aStill e_aStill, c_step.gfe v_step sh_step e_step]
theorem s_run_sound : s_run.sound Try.prog := spT_sound fun e he => by
  simp only [List.mem_cons, List.not_mem_nil, or_false] at he
  rcases he with rfl | rfl
  · exact FT.gfe_good c_aStill_good
  · exact FT.gfe_good c_step_good
def F_run (p : Prg) (s : Sta) (n d : Int) (R : List (List D)) (m : Nat) : St := ⟨mkS 45 [(2, vi n), (3, vp 192), (4, vp 256), (6, vp 384), (10, vo 900003 m), (11, vi d)], [(192, bx p.cells), (256, bx s.cells), (384, bc [.d (.int .i64 0), .d (.int .i64 0), .d (.int .i64 0), .d (.int .i64 0), .nil, .nil, .d (.int .i64 0)]), (900003, ba 2 R)]⟩
def F_runo (p : Prg) (s : Sta) (n d : Int) (R : List (List D)) (m : Nat) : St := ⟨mkS 45 [(2, vi n), (3, vp 192), (4, vp 256), (6, vp 384), (10, vo 900003 m), (11, vi d)], [(192, bx p.cells), (256, bc [.d (.int .i64 s.r0), .d (.int .i64 s.r1), .d (.int .i64 s.r2), .d (.int .i64 s.r3), .own 1028 1 (rowsOn s.mem).length, .own 1029 1 (rowsOn s.stack).length, .d (.int .i64 s.pc)]), (384, bc [.d (.int .i64 0), .d (.int .i64 0), .d (.int .i64 0), .d (.int .i64 0), .nil, .nil, .d (.int .i64 0)]), (1028, ba 1 (rowsOn s.mem)), (1029, ba 1 (rowsOn s.stack)), (900003, ba 2 R)]⟩
set_option maxRecDepth 100000 in
theorem t_run (p : Prg) (s : Sta) (n : Int) : a_run.start s_run 400 [ap p, as_ s, ai n] =
(VC.need (PreOk c_aStill (Sta.of (Sta.cells s), ()) [A.agg (Sta.cells s)])
(VC.all (v_aStill (Sta.of (Sta.cells s), ())) fun (y3 : Sta) =>
(FnA.at_ a_run 0 (F_runo p y3 n (0 : Int) [] (0 : Nat))))) := by kernel_rfl
set_option maxRecDepth 100000 in
theorem t_runo (p : Prg) (s : Sta) (n d : Int) (R : List (List D)) (m : Nat) : a_run.round s_run 400 0 (F_runo p s n d R m) =
(VC.br (decide (d < n))
 (VC.need (PreOk c_step (Prg.of (Prg.cells p), Sta.of (Sta.cells s)) [A.agg (Prg.cells p), A.agg (Sta.cells s)])
 (VC.all (v_step (Prg.of (Prg.cells p), Sta.of (Sta.cells s))) fun (y6 : Sta × List Obs × Int) =>
 (VC.need ((List.all (rowsOn y6.snd.fst) fun r ↦ List.length r == (2 : Nat)) = true ∧ (List.all R fun r ↦ List.length r == (2 : Nat)) = true ∧ (List.length R + List.length (rowsOn y6.snd.fst) + (100 : Nat)) * (17 : Nat) ≤ (70368744177664 : Nat))
 (VC.br (y6.snd.snd != (0 : Int))
  (VC.ret (some (RR.tup [Sum.inr [Rc.d (D.int IntKind.i64 y6.fst.r0), Rc.d (D.int IntKind.i64 y6.fst.r1), Rc.d (D.int IntKind.i64 y6.fst.r2), Rc.d (D.int IntKind.i64 y6.fst.r3), Rc.d (D.sl (rowsOn y6.fst.mem)), Rc.d (D.sl (rowsOn y6.fst.stack)), Rc.d (D.int IntKind.i64 y6.fst.pc)], Sum.inl (Rc.new (2 : Nat) (R ++ rowsOn y6.snd.fst)), Sum.inl (Rc.d (D.int IntKind.i64 (IntKind.wrap IntKind.i64 (d + (1 : Int))))), Sum.inl (Rc.d (D.int IntKind.i64 y6.snd.snd))])))
  (VC.br (IntKind.wrap IntKind.i64 (d + (1 : Int)) == n)
   (VC.ret (some (RR.tup [Sum.inr [Rc.d (D.int IntKind.i64 y6.fst.r0), Rc.d (D.int IntKind.i64 y6.fst.r1), Rc.d (D.int IntKind.i64 y6.fst.r2), Rc.d (D.int IntKind.i64 y6.fst.r3), Rc.d (D.sl (rowsOn y6.fst.mem)), Rc.d (D.sl (rowsOn y6.fst.stack)), Rc.d (D.int IntKind.i64 y6.fst.pc)], Sum.inl (Rc.new (2 : Nat) (R ++ rowsOn y6.snd.fst)), Sum.inl (Rc.d (D.int IntKind.i64 (IntKind.wrap IntKind.i64 (d + (1 : Int))))), Sum.inl (Rc.d (D.int IntKind.i64 y6.snd.snd))])))
   (FnA.at_ a_run 0 (F_run p y6.fst n (IntKind.wrap IntKind.i64 (d + (1 : Int))) (R ++ rowsOn y6.snd.fst) (List.length R + List.length (rowsOn y6.snd.fst)))))))))
 (VC.ret (some (RR.tup [Sum.inr [Rc.d (D.int IntKind.i64 s.r0), Rc.d (D.int IntKind.i64 s.r1), Rc.d (D.int IntKind.i64 s.r2), Rc.d (D.int IntKind.i64 s.r3), Rc.new (1 : Nat) (rowsOn s.mem), Rc.new (1 : Nat) (rowsOn s.stack), Rc.d (D.int IntKind.i64 s.pc)], Sum.inl Rc.nil, Sum.inl (Rc.d (D.int IntKind.i64 (0 : Int))), Sum.inl (Rc.d (D.int IntKind.i64 (0 : Int)))])))) := by kernel_rfl
set_option maxRecDepth 100000 in
theorem t_run0 (p : Prg) (s : Sta) (n d : Int) (R : List (List D)) (m : Nat) : a_run.round s_run 400 0 (F_run p s n d R m) =
(VC.br (decide (d < n))
 (VC.need (PreOk c_step (Prg.of (Prg.cells p), Sta.of (Sta.cells s)) [A.agg (Prg.cells p), A.agg (Sta.cells s)])
 (VC.all (v_step (Prg.of (Prg.cells p), Sta.of (Sta.cells s))) fun (y6 : Sta × List Obs × Int) =>
 (VC.need ((List.all (rowsOn y6.snd.fst) fun r ↦ List.length r == (2 : Nat)) = true ∧ (List.all R fun r ↦ List.length r == (2 : Nat)) = true ∧ (List.length R + List.length (rowsOn y6.snd.fst) + (100 : Nat)) * (17 : Nat) ≤ (70368744177664 : Nat))
 (VC.br (y6.snd.snd != (0 : Int))
  (VC.ret (some (RR.tup [Sum.inr [Rc.d (D.int IntKind.i64 y6.fst.r0), Rc.d (D.int IntKind.i64 y6.fst.r1), Rc.d (D.int IntKind.i64 y6.fst.r2), Rc.d (D.int IntKind.i64 y6.fst.r3), Rc.d (D.sl (rowsOn y6.fst.mem)), Rc.d (D.sl (rowsOn y6.fst.stack)), Rc.d (D.int IntKind.i64 y6.fst.pc)], Sum.inl (Rc.new (2 : Nat) (R ++ rowsOn y6.snd.fst)), Sum.inl (Rc.d (D.int IntKind.i64 (IntKind.wrap IntKind.i64 (d + (1 : Int))))), Sum.inl (Rc.d (D.int IntKind.i64 y6.snd.snd))])))
  (VC.br (IntKind.wrap IntKind.i64 (d + (1 : Int)) == n)
   (VC.ret (some (RR.tup [Sum.inr [Rc.d (D.int IntKind.i64 y6.fst.r0), Rc.d (D.int IntKind.i64 y6.fst.r1), Rc.d (D.int IntKind.i64 y6.fst.r2), Rc.d (D.int IntKind.i64 y6.fst.r3), Rc.d (D.sl (rowsOn y6.fst.mem)), Rc.d (D.sl (rowsOn y6.fst.stack)), Rc.d (D.int IntKind.i64 y6.fst.pc)], Sum.inl (Rc.new (2 : Nat) (R ++ rowsOn y6.snd.fst)), Sum.inl (Rc.d (D.int IntKind.i64 (IntKind.wrap IntKind.i64 (d + (1 : Int))))), Sum.inl (Rc.d (D.int IntKind.i64 y6.snd.snd))])))
   (FnA.at_ a_run 0 (F_run p y6.fst n (IntKind.wrap IntKind.i64 (d + (1 : Int))) (R ++ rowsOn y6.snd.fst) (List.length R + List.length (rowsOn y6.snd.fst)))))))))
 (VC.ret (some (RR.tup [Sum.inr [Rc.d (D.int IntKind.i64 s.r0), Rc.d (D.int IntKind.i64 s.r1), Rc.d (D.int IntKind.i64 s.r2), Rc.d (D.int IntKind.i64 s.r3), Rc.d (D.sl (rowsOn s.mem)), Rc.d (D.sl (rowsOn s.stack)), Rc.d (D.int IntKind.i64 s.pc)], Sum.inl Rc.nil, Sum.inl (Rc.d (D.int IntKind.i64 (0 : Int))), Sum.inl (Rc.d (D.int IntKind.i64 (0 : Int)))])))) := by kernel_rfl
theorem OnL.app2 {α : Type} [Row α] {R : List (List D)} {n : Nat} {l : List α} (h : OnL R n l) (m : List α) : OnL (R ++ rowsOn m) (R.length + m.length) (l ++ m) := by
  have := h.app m
  rwa [rowsOn_length] at this
theorem all2 {α : Type} [Row α] (l : List α) {k : Nat} (h : k = Row.n α) : ((rowsOn l).all fun r => r.length == k) = true := rowsOn_all l k h
theorem rrun_le {t : Sta} {R : List (List D)} {m : Nat} {acc : List Obs} {k e : Int} {fin : Sta × List Obs × Int × Int} (hR : OnL R m acc) (h : fin = (t, acc, k, e)) : (RR.tup [.inr [.d (.int .i64 t.r0), .d (.int .i64 t.r1), .d (.int .i64 t.r2), .d (.int .i64 t.r3), .d (.sl (rowsOn t.mem)), .d (.sl (rowsOn t.stack)), .d (.int .i64 t.pc)], .inl (.new 2 R), .inl (.d (.int .i64 k)), .inl (.d (.int .i64 e))]).data.le (rrun fin) := by
  subst h
  rw [hR.1]
  exact RR.le_of_eq rfl
theorem l_run0 (p : Prg) (n : Int) (fin : Sta × List Obs × Int × Int) (hm : Mems p.mems) (hl : p.ins.length ≤ 1000000) (hn : n ≤ 1000000) : ∀ i : Sta × Int × List (List D) × Nat, (fun (i : Sta × Int × List (List D) × Nat) => SmallS i.1 ∧ 0 ≤ i.2.1 ∧ i.2.1 < n ∧ ∃ acc : List Obs, OnL i.2.2.1 i.2.2.2 acc ∧ acc.length ≤ i.2.1 ∧ comb acc i.2.1 (runS p (n - i.2.1).toNat i.1) = fin) i → (a_run.at_ 0 ((fun (i : Sta × Int × List (List D) × Nat) => F_run p i.1 n i.2.1 i.2.2.1 i.2.2.2) i)).holds s_run.cx a_run.rs (fun r => r.data.le (rrun fin)) := by
  refine loop_rule (a := a_run) (j := 0) (m := 400) s_run_sound (fun (i : Sta × Int × List (List D) × Nat) => F_run p i.1 n i.2.1 i.2.2.1 i.2.2.2) (fun (i : Sta × Int × List (List D) × Nat) => SmallS i.1 ∧ 0 ≤ i.2.1 ∧ i.2.1 < n ∧ ∃ acc : List Obs, OnL i.2.2.1 i.2.2.2 acc ∧ acc.length ≤ i.2.1 ∧ comb acc i.2.1 (runS p (n - i.2.1).toNat i.1) = fin) (fun (i : Sta × Int × List (List D) × Nat) => (n - i.2.1).toNat) ?_
  rintro ⟨s, d, R, m⟩ h_inv ih
  try dsimp only at h_inv
  replace ih := fun (v0 : Sta) (v1 : Int) (v2 : List (List D)) (v3 : Nat) => ih (v0, v1, v2, v3)
  try dsimp only at ih
  show VC.holds _ _ _ (a_run.round s_run 400 0 (F_run p s n d R m))
  rw [t_run0]
  try simp only [asRows_sl, asInt_int, asBool_bool, asStr_str, listOf_rowsOn, List.drop_zero, Prg.eta, Sta.eta, rowsOn_length, getD_drop, Nat.reduceAdd, rd_int, rd_PMem_name, rd_PMem_secret, rd_PMem_n, rd_PLabel_name, rd_PLabel_at_, rd_Ins_kind, rd_Ins_op, rd_Ins_d, rd_Ins_aR, rd_Ins_aN, rd_Ins_bR, rd_Ins_bN, rd_Ins_name, rd_Ins_target, rd_Ent_pc, rd_Ent_val, rd_Ent_addr, rd_Ent_fro, rd_Ent_next, rd_Ent_done, rd_Ent_known, rd_Ent_fault, rd_Place_reg, rd_Place_n, rd_Place_secret, rd_Obs_kind, rd_Obs_at_, rd_Dir_kind, rd_Dir_n, Prg.of_cells, Sta.of_cells]
  obtain ⟨hs, h0, h1, acc, h2, h3, h4⟩ := h_inv
  have w1 : IntKind.wrap .i64 (d + 1) = d + 1 := wrap_small _ (by omega) (by omega)
  rw [w1]
  obtain ⟨k, hk⟩ : ∃ k, (n - d).toNat = k + 1 := ⟨(n - d).toNat - 1, by omega⟩
  rw [hk] at h4
  have hol := (step_len p s).2.2
  have e2 := h2.2
  refine br_dec (fun _ => ?_) (fun h => absurd h1 h)
  refine ⟨PreOk.mk ⟨hm, hs, hl⟩ rfl, all_holds fun y hy => ?_⟩
  replace hy : y = stepS p s := hy
  subst hy
  have e1 := h2.1
  refine ⟨⟨all2 _ rfl, by rw [e1]; exact all2 _ rfl, by rw [e1]; simp only [rowsOn_length]; omega⟩, ?_⟩
  refine br_bne (fun h => ?_) (fun h => ?_)
  · refine ret_leD (rrun_le (h2.app _) ?_)
    rw [← h4, runS_stop h]
    rfl
  · rw [runS_go h] at h4
    refine br_beq (fun h' => ?_) (fun h' => ?_)
    · refine ret_leD (rrun_le (h2.app _) ?_)
      have hk0 : k = 0 := by omega
      subst hk0
      rw [← h4, h]
      simp [comb, runS]
    · refine ih _ _ _ _ ⟨step_small hs, by omega, by omega, _, h2.app2 _, by simp only [List.length_append]; omega, ?_⟩ (by omega)
      rw [← h4, show (n - (d + 1)).toNat = k by omega]
      simp [comb, List.append_assoc]
      omega
theorem c_run_good : c_run.fe.Good Try.prog := by
  refine FT.good c_run ⟨Try.f55, by kernel_rfl, by decide +kernel, by kernel_rfl⟩ (fun ⟨p, s, n⟩ => by first | rfl | simp [c_run, rrRef, rstep, rins, rnum, rby, rss, rnewI, rnewE, rstab, rplaces, ri, rb, rib, rrun, Sta.fresh]) fun ⟨p, s, n⟩ hp => ?_
  refine acalls_leD s_run_sound (fn := Try.f55) (a := a_run) (nargs := 3) (tbl := [(4, [2, 3, 4, 6, 10, 11, 1000010000000900003002])]) (by kernel_rfl) (by kernel_rfl) rfl (m := 400) ?_
  show VC.holds _ _ _ (a_run.start s_run 400 [ap p, as_ s, ai n])
  rw [t_run]
  try simp only [asRows_sl, asInt_int, asBool_bool, asStr_str, listOf_rowsOn, List.drop_zero, Prg.eta, Sta.eta, rowsOn_length, getD_drop, Nat.reduceAdd, rd_int, rd_PMem_name, rd_PMem_secret, rd_PMem_n, rd_PLabel_name, rd_PLabel_at_, rd_Ins_kind, rd_Ins_op, rd_Ins_d, rd_Ins_aR, rd_Ins_aN, rd_Ins_bR, rd_Ins_bN, rd_Ins_name, rd_Ins_target, rd_Ent_pc, rd_Ent_val, rd_Ent_addr, rd_Ent_fro, rd_Ent_next, rd_Ent_done, rd_Ent_known, rd_Ent_fault, rd_Place_reg, rd_Place_n, rd_Place_secret, rd_Obs_kind, rd_Obs_at_, rd_Dir_kind, rd_Dir_n, Prg.of_cells, Sta.of_cells]
  try simp only [c_run] at hp
  obtain ⟨hm, hs, hl, hn⟩ := hp
  refine ⟨PreOk.mk hs rfl, all_holds fun y hy => ?_⟩
  replace hy : s = y := hy.symm
  subst hy
  have e : c_run.ans (p, s, n) = rrun (runS p n.toNat s) := rfl
  rw [e]
  refine at_of_round s_run_sound (m := 400) ?_
  rw [t_runo]
  have hol := (step_len p s).2.2
  try simp only [asRows_sl, asInt_int, asBool_bool, asStr_str, listOf_rowsOn, List.drop_zero, Prg.eta, Sta.eta, rowsOn_length, getD_drop, Nat.reduceAdd, rd_int, rd_PMem_name, rd_PMem_secret, rd_PMem_n, rd_PLabel_name, rd_PLabel_at_, rd_Ins_kind, rd_Ins_op, rd_Ins_d, rd_Ins_aR, rd_Ins_aN, rd_Ins_bR, rd_Ins_bN, rd_Ins_name, rd_Ins_target, rd_Ent_pc, rd_Ent_val, rd_Ent_addr, rd_Ent_fro, rd_Ent_next, rd_Ent_done, rd_Ent_known, rd_Ent_fault, rd_Place_reg, rd_Place_n, rd_Place_secret, rd_Obs_kind, rd_Obs_at_, rd_Dir_kind, rd_Dir_n, Prg.of_cells, Sta.of_cells]
  rw [wrap_small (0 + 1) (by omega) (by omega)]
  refine br_dec (fun h => ?_) (fun h => ?_)
  · obtain ⟨k, hk⟩ : ∃ k, n.toNat = k + 1 := ⟨n.toNat - 1, by omega⟩
    refine ⟨PreOk.mk ⟨hm, hs, hl⟩ rfl, all_holds fun y hy => ?_⟩
    replace hy : y = stepS p s := hy
    subst hy
    refine ⟨⟨all2 _ rfl, rfl, by simp; omega⟩, ?_⟩
    have ho : OnL ([] ++ rowsOn (stepS p s).2.1) (([] : List (List D)).length + (stepS p s).2.1.length) (([] : List Obs) ++ (stepS p s).2.1) := OnL.nil.app2 _
    rw [hk]
    refine br_bne (fun h => ?_) (fun h => ?_)
    · refine ret_leD (rrun_le ho ?_)
      rw [runS_stop h]
      rfl
    · rw [runS_go h]
      refine br_beq (fun h' => ?_) (fun h' => ?_)
      · refine ret_leD (rrun_le ho ?_)
        have hk0 : k = 0 := by omega
        subst hk0
        rw [h]
        simp [runS]
      · refine l_run0 p n _ hm hl hn ((stepS p s).1, 0 + 1, _, _) ⟨step_small hs, by dsimp only; omega, by dsimp only; omega, _, ho, by simp; omega, ?_⟩
        rw [show (n - (0 + 1)).toNat = k by omega]
        simp [comb]
        omega
  · refine ret_leD ?_
    have hk : n.toNat = 0 := by omega
    rw [hk]
    exact RR.le_of_eq rfl
end Go.Proofs.Ytclabjihjopclaa.Ax
