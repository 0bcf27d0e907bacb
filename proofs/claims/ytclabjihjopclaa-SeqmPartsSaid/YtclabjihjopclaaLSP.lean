/- The statement SeqmParts. -/
import Derived.Test.YtclabjihjopclaaF18
namespace Go.Proofs.Ytclabjihjopclaa.Ax
open Go.RowKit
set_option linter.unusedVariables false
set_option linter.unusedSimpArgs false
def rdLLII : List A → List Int × List Int × Int × Int
  | [.c (.sl l), .c (.sl m), .c (.int _ i), .c (.int _ j)] => (listOf Int l, listOf Int m, i, j)
  | _ => default
def c_lParts : FT (List Int × List Int × Int × Int) := ⟨17, fun x => [al x.1, al x.2.1, ai x.2.2.1, ai x.2.2.2], rdLLII, fun _ => True, fun x => rb true, false, fun x => by simp [al, ai, rdLLII]⟩
noncomputable def a_lParts : FnA := (fnA Try.prog Try.f17 4 []).getD ⟨0, .skip, [], []⟩
noncomputable def s_lParts : Sp := spT [c_make.gfe v_make sh_make e_make, c_states.gfe v_states sh_states e_states, c_run.gfe v_run sh_run e_run, c_rSame.gfe v_rSame sh_rSame e_rSame, c_rSameO.gfe v_rSameO sh_rSameO e_rSameO, c_awake8.fe]
theorem s_lParts_sound : s_lParts.sound Try.prog := spT_sound fun e he => by
  simp only [List.mem_cons, List.not_mem_nil, or_false] at he
  rcases he with rfl | rfl | rfl | rfl | rfl | rfl
  · exact FT.gfe_good c_make_good
  · exact FT.gfe_good c_states_good
  · exact FT.gfe_good c_run_good
  · exact FT.gfe_good c_rSame_good
  · exact FT.gfe_good c_rSameO_good
  · exact c_awake8_good
set_option maxRecDepth 100000 in
theorem t_lParts (m l : List Int) (n k : Int) : a_lParts.start s_lParts 400 [al m, al l, ai n, ai k] =
(VC.need (PreOk c_make (m, ()) [A.c (D.sl (rowsOn m))])
(VC.all (v_make (listOf Int (rowsOn m), ())) fun (y4 : Prg) =>
(VC.need (PreOk c_states (Prg.of (Prg.cells y4), l, (1 : Int)) [A.agg (Prg.cells y4), A.c (D.sl (rowsOn l)), A.c (D.int IntKind.i64 (1 : Int))])
(VC.all (((startS (Prg.of (Prg.cells y4)) (toldS (List.length (placesS (Prg.of (Prg.cells y4)))) (padF (listOf Int (rowsOn l))) (List.length (placesS (Prg.of (Prg.cells y4)))))).fst, (startS (Prg.of (Prg.cells y4)) (toldS (List.length (placesS (Prg.of (Prg.cells y4)))) (twinF (1 : Int) (placesS (Prg.of (Prg.cells y4))) (listOf Int (rowsOn l))) (List.length (placesS (Prg.of (Prg.cells y4)))))).fst)) fun (y5 : Sta × Sta) =>
(VC.need (PreOk c_run (Prg.of (Prg.cells y4), Sta.of (Sta.cells y5.fst), bits BinOp.and IntKind.i64 n (31 : Int)) [A.agg (Prg.cells y4), A.agg (Sta.cells y5.fst), A.c (D.int IntKind.i64 (bits BinOp.and IntKind.i64 n (31 : Int)))])
(VC.all (v_run (Prg.of (Prg.cells y4), Sta.of (Sta.cells y5.fst), bits BinOp.and IntKind.i64 n (31 : Int))) fun (y6 : Sta × List Obs × Int × Int) =>
(VC.need (PreOk c_run (Prg.of (Prg.cells y4), Sta.of (Sta.cells y6.fst), bits BinOp.and IntKind.i64 k (31 : Int)) [A.agg (Prg.cells y4), A.agg (Sta.cells y6.fst), A.c (D.int IntKind.i64 (bits BinOp.and IntKind.i64 k (31 : Int)))])
(VC.all (v_run (Prg.of (Prg.cells y4), Sta.of (Sta.cells y6.fst), bits BinOp.and IntKind.i64 k (31 : Int))) fun (y7 : Sta × List Obs × Int × Int) =>
(VC.need (PreOk c_run (Prg.of (Prg.cells y4), Sta.of (Sta.cells y5.fst), IntKind.wrap IntKind.i64 (bits BinOp.and IntKind.i64 n (31 : Int) + bits BinOp.and IntKind.i64 k (31 : Int))) [A.agg (Prg.cells y4), A.agg (Sta.cells y5.fst), A.c (D.int IntKind.i64 (IntKind.wrap IntKind.i64 (bits BinOp.and IntKind.i64 n (31 : Int) + bits BinOp.and IntKind.i64 k (31 : Int))))])
(VC.all (v_run (Prg.of (Prg.cells y4), Sta.of (Sta.cells y5.fst), IntKind.wrap IntKind.i64 (bits BinOp.and IntKind.i64 n (31 : Int) + bits BinOp.and IntKind.i64 k (31 : Int)))) fun (y8 : Sta × List Obs × Int × Int) =>
(VC.br (y6.snd.snd.snd != (0 : Int))
 (VC.br (decide (y6.snd.snd.fst ≤ bits BinOp.and IntKind.i64 n (31 : Int)))
  (VC.br (y8.snd.snd.snd == y6.snd.snd.snd)
   (VC.br (y8.snd.snd.fst == y6.snd.snd.fst)
    (VC.need (PreOk c_rSame (Sta.of (Sta.cells y8.fst), Sta.of (Sta.cells y6.fst)) [A.agg (Sta.cells y8.fst), A.agg (Sta.cells y6.fst)])
    (VC.all (v_rSame (Sta.of (Sta.cells y8.fst), Sta.of (Sta.cells y6.fst))) fun (y9 : Bool) =>
    (VC.br (y9)
     (VC.need (PreOk c_rSameO (y8.snd.fst, y6.snd.fst) [A.c (D.sl (rowsOn y8.snd.fst)), A.c (D.sl (rowsOn y6.snd.fst))])
     (VC.all (v_rSameO (listOf Obs (rowsOn y8.snd.fst), listOf Obs (rowsOn y6.snd.fst))) fun (y10 : Bool) =>
     (VC.br (y10)
      (VC.need (PreOk c_awake8 PUnit.unit [])
      (VC.ret (some (RR.c (Rc.d (D.bool true))))))
      (VC.ret (some (RR.c (Rc.d (D.bool false))))))))
     (VC.ret (some (RR.c (Rc.d (D.bool false))))))))
    (VC.ret (some (RR.c (Rc.d (D.bool false))))))
   (VC.ret (some (RR.c (Rc.d (D.bool false))))))
  (VC.ret (some (RR.c (Rc.d (D.bool false))))))
 (VC.br (y6.snd.snd.fst == bits BinOp.and IntKind.i64 n (31 : Int))
  (VC.br (y8.snd.snd.fst == IntKind.wrap IntKind.i64 (bits BinOp.and IntKind.i64 n (31 : Int) + y7.snd.snd.fst))
   (VC.br (y8.snd.snd.snd == y7.snd.snd.snd)
    (VC.need (PreOk c_rSame (Sta.of (Sta.cells y8.fst), Sta.of (Sta.cells y7.fst)) [A.agg (Sta.cells y8.fst), A.agg (Sta.cells y7.fst)])
    (VC.all (v_rSame (Sta.of (Sta.cells y8.fst), Sta.of (Sta.cells y7.fst))) fun (y9 : Bool) =>
    (VC.br (y9)
     (VC.need ((List.all (rowsOn y6.snd.fst) fun r ↦ List.length r == (2 : Nat)) = true ∧ (List.all ([] : List (List D)) fun r ↦ List.length r == (2 : Nat)) = true ∧ ((0 : Nat) + List.length (rowsOn y6.snd.fst) + (100 : Nat)) * (17 : Nat) ≤ (70368744177664 : Nat))
     (VC.need ((List.all (rowsOn y7.snd.fst) fun r ↦ List.length r == (2 : Nat)) = true ∧ (List.all ([] ++ rowsOn y6.snd.fst) fun r ↦ List.length r == (2 : Nat)) = true ∧ (List.length ([] ++ rowsOn y6.snd.fst) + List.length (rowsOn y7.snd.fst) + (100 : Nat)) * (17 : Nat) ≤ (70368744177664 : Nat))
     (VC.need (PreOk c_rSameO (y8.snd.fst, listOf Obs ([] ++ rowsOn y6.snd.fst ++ rowsOn y7.snd.fst)) [A.c (D.sl (rowsOn y8.snd.fst)), A.c (D.sl ([] ++ rowsOn y6.snd.fst ++ rowsOn y7.snd.fst))])
     (VC.all (v_rSameO (listOf Obs (rowsOn y8.snd.fst), listOf Obs ([] ++ rowsOn y6.snd.fst ++ rowsOn y7.snd.fst))) fun (y10 : Bool) =>
     (VC.br (y10)
      (VC.br (decide ((↑(List.length (rowsOn y8.fst.stack)) : Int) ≤ (4 : Int)))
       (VC.br ((↑(List.length (rowsOn y8.fst.mem)) : Int) == (↑(List.length (rowsOn y5.fst.mem)) : Int))
        (VC.need (PreOk c_awake8 PUnit.unit [])
        (VC.ret (some (RR.c (Rc.d (D.bool true))))))
        (VC.ret (some (RR.c (Rc.d (D.bool false))))))
       (VC.ret (some (RR.c (Rc.d (D.bool false))))))
      (VC.ret (some (RR.c (Rc.d (D.bool false))))))))))
     (VC.ret (some (RR.c (Rc.d (D.bool false))))))))
    (VC.ret (some (RR.c (Rc.d (D.bool false))))))
   (VC.ret (some (RR.c (Rc.d (D.bool false))))))
  (VC.ret (some (RR.c (Rc.d (D.bool false))))))))))))))))) := by kernel_rfl
theorem c_lParts_good : c_lParts.fe.Good Try.prog := by
  refine FT.good c_lParts ⟨Try.f17, by kernel_rfl, by decide +kernel, by kernel_rfl⟩ (fun ⟨m, l, n, k⟩ => by first | rfl | simp [c_lParts, rrRef, rrun, rstep, rins, rnum, rby, rss, rnewI, rnewE, rstab, rplaces, ri, rb, rib, Sta.fresh]) fun ⟨m, l, n, k⟩ hp => ?_
  refine acalls_le s_lParts_sound (fn := Try.f17) (a := a_lParts) (nargs := 4) (tbl := []) (by kernel_rfl) (by kernel_rfl) rfl (m := 400) ?_
  show VC.holds _ _ _ (a_lParts.start s_lParts 400 [al m, al l, ai n, ai k])
  rw [t_lParts]
  try simp only [asRows_sl, asInt_int, asBool_bool, asStr_str, listOf_rowsOn, List.drop_zero, Prg.eta, Sta.eta, rowsOn_length, getD_drop, Nat.reduceAdd, rd_int, rd_PMem_name, rd_PMem_secret, rd_PMem_n, rd_PLabel_name, rd_PLabel_at_, rd_Ins_kind, rd_Ins_op, rd_Ins_d, rd_Ins_aR, rd_Ins_aN, rd_Ins_bR, rd_Ins_bN, rd_Ins_name, rd_Ins_target, rd_Ent_pc, rd_Ent_val, rd_Ent_addr, rd_Ent_fro, rd_Ent_next, rd_Ent_done, rd_Ent_known, rd_Ent_fault, rd_Place_reg, rd_Place_n, rd_Place_secret, rd_Obs_kind, rd_Obs_at_, rd_Dir_kind, rd_Dir_n, Prg.of_cells, Sta.of_cells]
  try simp only [c_lParts] at hp
  refine ⟨PreOk.mk trivial rfl, all_holds fun p hp0 => ?_⟩
  have hw : WFM p := by rw [hp0]; exact (makeS_spec _).1
  clear hp0
  have hp := hw.ok
  refine ⟨PreOk.mk hw.toMems rfl, all_holds fun s2 hs2 => ?_⟩
  replace hs2 : s2 = statesS p l 1 := hs2
  obtain ⟨hok, _, _, _, hst, _⟩ := states_ok hp l 1
  rw [← hs2] at hok hst
  clear hs2
  generalize s2.1 = a at hok hst ⊢
  have hN : 0 ≤ bits .and .i64 n 31 ∧ bits .and .i64 n 31 ≤ 31 := by rw [and31]; omega
  have hK : 0 ≤ bits .and .i64 k 31 ∧ bits .and .i64 k 31 ≤ 31 := by rw [and31]; omega
  generalize bits .and .i64 n 31 = N at hN ⊢
  generalize bits .and .i64 k 31 = K at hK ⊢
  rw [wrap_small (N + K) (by omega) (by omega)]
  refine ⟨PreOk.mk ⟨hp.mems, hok.small hp, hp.len, by dsimp only; omega⟩ rfl, all_holds fun x hx => ?_⟩
  replace hx : x = runS p N.toNat a := hx
  have hxo := run_ok hp N.toNat hok
  obtain ⟨x1, x2, x3, x4, x5, x6⟩ := run_len p N.toNat a
  rw [← hx] at hxo x1 x2 x3 x4 x5 x6
  refine ⟨PreOk.mk ⟨hp.mems, hxo.small hp, hp.len, by dsimp only; omega⟩ rfl, all_holds fun y hy => ?_⟩
  replace hy : y = runS p K.toNat x.1 := hy
  obtain ⟨y1, y2, y3, y4, y5, y6⟩ := run_len p K.toNat x.1
  have hyo := run_ok hp K.toNat hxo
  rw [← hy] at hyo y1 y2 y3 y4 y5 y6
  refine ⟨PreOk.mk ⟨hp.mems, hok.small hp, hp.len, by dsimp only; omega⟩ rfl, all_holds fun z hz => ?_⟩
  replace hz : z = runS p (N + K).toNat a := hz
  have hzo := run_ok hp (N + K).toNat hok
  rw [← hz] at hzo
  have hadd := run_add p K.toNat N.toNat a
  rw [← hx, ← hy, show N.toNat + K.toNat = (N + K).toNat by omega, ← hz] at hadd
  rw [hst] at x2
  simp only [List.length_nil] at x2
  refine br_bne (fun he => ?_) (fun he => ?_)
  · rw [if_neg he] at hadd
    subst hadd
    refine br_t (decide_eq_true (by omega)) (br_t (by simp) (br_t (by simp) ⟨PreOk.mk ⟨hzo.small hp, hzo.small hp⟩ rfl, all_holds fun b hb => ?_⟩))
    replace hb : b = true := by rw [hb]; simp [v_rSame]
    refine br_t hb ⟨PreOk.mk (by dsimp only [c_rSameO]; omega) rfl, all_holds fun c hc => ?_⟩
    replace hc : c = true := by rw [hc]; simp [v_rSameO]
    exact br_t hc ⟨PreOk.mk trivial rfl, ret_le (RR.le_refl _)⟩
  · rw [if_pos he] at hadd
    have hcnt := x6 he
    rw [wrap_small (N + y.2.2.1) (by omega) (by omega)]
    have hz1 : z.1 = y.1 := by rw [hadd]; rfl
    have hz2 : z.2.1 = x.2.1 ++ y.2.1 := by rw [hadd]; rfl
    have hz3 : z.2.2.1 = N + y.2.2.1 := by rw [hadd]; simp only [comb]; omega
    have hz4 : z.2.2.2 = y.2.2.2 := by rw [hadd]; rfl
    have hobs : ([] : List (List D)) ++ rowsOn x.2.1 ++ rowsOn y.2.1 = rowsOn (x.2.1 ++ y.2.1) := by rw [rowsOn_append]; rfl
    refine br_t (by simp; omega) (br_t (by simp [hz3]) (br_t (by simp [hz4]) ⟨PreOk.mk ⟨hzo.small hp, hyo.small hp⟩ rfl, all_holds fun b hb => ?_⟩))
    replace hb : b = true := by rw [hb]; simp [v_rSame, hz1]
    refine br_t hb ⟨⟨all2 _ rfl, rfl, by omega⟩, ⟨⟨all2 _ rfl, all2 _ rfl, by simp; omega⟩, ?_⟩⟩
    rw [hobs, listOf_rowsOn]
    refine ⟨PreOk.mk (by dsimp only [c_rSameO]; rw [hz2, List.length_append]; omega) rfl, all_holds fun c hc => ?_⟩
    replace hc : c = true := by rw [hc]; simp [v_rSameO, hz2]
    refine br_t hc (br_t (decide_eq_true ?_) (br_t ?_ ⟨PreOk.mk trivial rfl, ret_le (RR.le_refl _)⟩))
    · rw [hz1]; omega
    · rw [hz1]; simp; omega
end Go.Proofs.Ytclabjihjopclaa.Ax
