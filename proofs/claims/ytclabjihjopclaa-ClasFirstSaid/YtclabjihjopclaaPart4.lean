/- Several texts in one, in their order. -/
import Derived.Test.YtclabjihjopclaaPart3
section
/- The statement ClasFirst. -/
namespace Go.Proofs.Ytclabjihjopclaa.Ax
open Go.RowKit
set_option linter.unusedVariables false
set_option linter.unusedSimpArgs false
def rdL1u : List A → List Int × Unit
  | [.c (.sl l)] => (listOf Int l, ())
  | _ => default
def c_lFirst : FT (List Int × Unit) := ⟨22, fun x => [al x.1], rdL1u, fun _ => True, fun x => rb true, false, fun x => by simp [al, rdL1u]⟩
noncomputable def a_lFirst : FnA := (fnA Try.prog Try.f22 1 [(7, [3, 4, 5, 7, 9])]).getD ⟨0, .skip, [], []⟩
noncomputable def s_lFirst : Sp := spT [c_make.gfe v_make sh_make e_make, c_sequ.gfe v_sequ sh_sequ e_sequ, c_count.gfe v_count sh_count e_count, c_pAt.gfe v_pAt sh_pAt e_pAt, c_differ.gfe v_differ sh_differ e_differ, c_awake23.fe]
theorem s_lFirst_sound : s_lFirst.sound Try.prog := spT_sound fun e he => by
  simp only [List.mem_cons, List.not_mem_nil, or_false] at he
  rcases he with rfl | rfl | rfl | rfl | rfl | rfl
  · exact FT.gfe_good c_make_good
  · exact FT.gfe_good c_sequ_good
  · exact FT.gfe_good c_count_good
  · exact FT.gfe_good c_pAt_good
  · exact FT.gfe_good c_differ_good
  · exact c_awake23_good
def F_lci (p : Prg) (n : Int) (ok : Bool) (k i : Int) : St := ⟨mkS 101 [(3, vp 192), (4, vi n), (5, .c (.d (.bool ok))), (7, vi k), (9, vi i)], [(192, bx p.cells)]⟩
set_option maxRecDepth 100000 in
theorem t_lFirst (m : List Int) : a_lFirst.start s_lFirst 400 [al m] =
(VC.need (PreOk c_make (m, ()) [A.c (D.sl (rowsOn m))])
(VC.all (v_make (listOf Int (rowsOn m), ())) fun (y1 : Prg) =>
(VC.need (PreOk c_sequ (Prg.of (Prg.cells y1), (500 : Int)) [A.agg (Prg.cells y1), A.c (D.int IntKind.i64 (500 : Int))])
(VC.all (v_sequ (Prg.of (Prg.cells y1), (500 : Int))) fun (y2 : Int × Bool × Bool) =>
(VC.need (PreOk c_count (Prg.of (Prg.cells y1), (500 : Int)) [A.agg (Prg.cells y1), A.c (D.int IntKind.i64 (500 : Int))])
(VC.all (v_count (Prg.of (Prg.cells y1), (500 : Int))) fun (y3 : Int × Bool) =>
(VC.br (if true = true then !y2.snd.snd == y3.snd else y2.snd.snd == y3.snd)
 (VC.br (if false = true then !y2.snd.snd == y3.snd else y2.snd.snd == y3.snd)
  (VC.br (y2.fst == (0 : Int))
   (VC.br (!y2.snd.fst)
    (VC.need (PreOk c_awake23 PUnit.unit [])
    (VC.ret (some (RR.c (Rc.d (D.bool true))))))
    (VC.ret (some (RR.c (Rc.d (D.bool false))))))
   (VC.ret (some (RR.c (Rc.d (D.bool false))))))
  (VC.ret (some (RR.c (Rc.d (D.bool false))))))
 (VC.br (!y2.snd.snd)
  (VC.br (if false = true then !y2.snd.snd == y3.snd else y2.snd.snd == y3.snd)
   (VC.br (y2.fst == (0 : Int))
    (VC.br (!y2.snd.fst)
     (VC.need (PreOk c_awake23 PUnit.unit [])
     (VC.ret (some (RR.c (Rc.d (D.bool true))))))
     (VC.ret (some (RR.c (Rc.d (D.bool false))))))
    (VC.ret (some (RR.c (Rc.d (D.bool false))))))
   (VC.ret (some (RR.c (Rc.d (D.bool false))))))
  (FnA.at_ a_lFirst 0 (F_lci y1 y2.fst y2.snd.fst y3.fst (0 : Int))))))))))) := by kernel_rfl
set_option maxRecDepth 100000 in
theorem t_lci0 (p : Prg) (n : Int) (ok : Bool) (k i : Int) : a_lFirst.round s_lFirst 400 0 (F_lci p n ok k i) =
(VC.br (decide (i < k))
 (VC.need (PreOk c_pAt (Prg.of (Prg.cells p), i) [A.agg (Prg.cells p), A.c (D.int IntKind.i64 i)])
 (VC.all (v_pAt (Prg.of (Prg.cells p), i)) fun (y5 : Sta × Sta × Bool) =>
 (VC.br (!y5.snd.snd)
  (VC.ret (some (RR.c (Rc.d (D.bool false)))))
  (VC.need (PreOk c_differ (Prg.of (Prg.cells p), Sta.of (Sta.cells y5.fst), Sta.of (Sta.cells y5.snd.fst)) [A.agg (Prg.cells p), A.agg (Sta.cells y5.fst), A.agg (Sta.cells y5.snd.fst)])
  (VC.all (v_differ (Prg.of (Prg.cells p), Sta.of (Sta.cells y5.fst), Sta.of (Sta.cells y5.snd.fst))) fun (y6 : Bool) =>
  (VC.br (y6)
   (VC.br (!ok)
    (VC.ret (some (RR.c (Rc.d (D.bool false)))))
    (VC.br (decide (i < n))
     (VC.ret (some (RR.c (Rc.d (D.bool false)))))
     (VC.br (ok)
      (VC.br (i == n)
       (VC.need (PreOk c_differ (Prg.of (Prg.cells p), Sta.of (Sta.cells y5.fst), Sta.of (Sta.cells y5.snd.fst)) [A.agg (Prg.cells p), A.agg (Sta.cells y5.fst), A.agg (Sta.cells y5.snd.fst)])
       (VC.all (v_differ (Prg.of (Prg.cells p), Sta.of (Sta.cells y5.fst), Sta.of (Sta.cells y5.snd.fst))) fun (y7 : Bool) =>
       (VC.br (!y7)
        (VC.ret (some (RR.c (Rc.d (D.bool false)))))
        (FnA.at_ a_lFirst 0 (F_lci p n ok k (IntKind.wrap IntKind.i64 (i + (1 : Int))))))))
       (FnA.at_ a_lFirst 0 (F_lci p n ok k (IntKind.wrap IntKind.i64 (i + (1 : Int))))))
      (FnA.at_ a_lFirst 0 (F_lci p n ok k (IntKind.wrap IntKind.i64 (i + (1 : Int))))))))
   (VC.br (ok)
    (VC.br (i == n)
     (VC.need (PreOk c_differ (Prg.of (Prg.cells p), Sta.of (Sta.cells y5.fst), Sta.of (Sta.cells y5.snd.fst)) [A.agg (Prg.cells p), A.agg (Sta.cells y5.fst), A.agg (Sta.cells y5.snd.fst)])
     (VC.all (v_differ (Prg.of (Prg.cells p), Sta.of (Sta.cells y5.fst), Sta.of (Sta.cells y5.snd.fst))) fun (y7 : Bool) =>
     (VC.br (!y7)
      (VC.ret (some (RR.c (Rc.d (D.bool false)))))
      (FnA.at_ a_lFirst 0 (F_lci p n ok k (IntKind.wrap IntKind.i64 (i + (1 : Int))))))))
     (FnA.at_ a_lFirst 0 (F_lci p n ok k (IntKind.wrap IntKind.i64 (i + (1 : Int))))))
    (FnA.at_ a_lFirst 0 (F_lci p n ok k (IntKind.wrap IntKind.i64 (i + (1 : Int))))))))))))
 (VC.br (!ok)
  (VC.need (PreOk c_awake23 PUnit.unit [])
  (VC.ret (some (RR.c (Rc.d (D.bool true))))))
  (VC.br (decide (n < k))
   (VC.need (PreOk c_awake23 PUnit.unit [])
   (VC.ret (some (RR.c (Rc.d (D.bool true))))))
   (VC.ret (some (RR.c (Rc.d (D.bool false)))))))) := by kernel_rfl
theorem atP_ok2 {p : Prg} (hw : okW p.w) (i : Int) : (atP p i).2.2 = decide (0 ≤ i ∧ i < 1000000 ∧ i < cntS p) := by
  by_cases h : 0 ≤ i ∧ i < 1000000 ∧ i < cntS p
  · obtain ⟨u, o, q, e, _⟩ := (atP_spec hw i).1 h
    rw [e, decide_eq_true h]
  · rw [(atP_spec hw i).2 h, decide_eq_false h]
def dfS (p : Prg) (i : Int) : Bool := (atP p i).2.2 && differS p (atP p i).1 (atP p i).2.1
theorem seqK_spec (p : Prg) : ∀ (m : Nat) (i : Int), ((seqK p m i).2 = true → i ≤ (seqK p m i).1 ∧ (seqK p m i).1 < i + m ∧ dfS p (seqK p m i).1 = true ∧ ∀ j, i ≤ j → j < (seqK p m i).1 → dfS p j = false) ∧
    ((seqK p m i).2 = false → (seqK p m i).1 = 0 ∧ ∀ j, i ≤ j → j < i + m → dfS p j = false)
  | 0, i => ⟨fun h => (by cases h), fun _ => ⟨rfl, fun j h1 h2 => by omega⟩⟩
  | m + 1, i => by
    obtain ⟨ih1, ih2⟩ := seqK_spec p m (i + 1)
    rw [seqK_succ]
    by_cases h : ((atP p i).2.2 && differS p (atP p i).1 (atP p i).2.1) = true
    · rw [if_pos h]
      exact ⟨fun _ => ⟨Int.le_refl _, by dsimp only; omega, h, fun j h1 h2 => by dsimp only at h2; omega⟩, fun q => by cases q⟩
    · rw [if_neg h]
      have hf : dfS p i = false := by unfold dfS; simpa using h
      refine ⟨fun q => ?_, fun q => ?_⟩
      · obtain ⟨a1, a2, a3, a4⟩ := ih1 q
        refine ⟨by omega, by omega, a3, fun j h1 h2 => ?_⟩
        by_cases e : j = i
        · rw [e]; exact hf
        · exact a4 j (by omega) h2
      · obtain ⟨a1, a2⟩ := ih2 q
        refine ⟨a1, fun j h1 h2 => ?_⟩
        by_cases e : j = i
        · rw [e]; exact hf
        · exact a2 j (by omega) (by omega)
theorem l_lci0 (p : Prg) (n : Int) (ok : Bool) (k : Int) (hp : PrgOk p) (hf : p.fuel ≤ 1000000) (hk : k ≤ 1000000) (hkc : k = cntS p) (hk0 : 0 ≤ k) (hs1 : ok = true → 0 ≤ n ∧ n < k ∧ dfS p n = true ∧ ∀ j, 0 ≤ j → j < n → dfS p j = false) (hs2 : ok = false → ∀ j, 0 ≤ j → j < k → dfS p j = false) : ∀ i : Int, (fun (i : Int) => 0 ≤ i ∧ i ≤ k) i → (a_lFirst.at_ 0 ((fun (i : Int) => F_lci p n ok k i) i)).holds s_lFirst.cx a_lFirst.rs (fun r => r.le (rb true)) := by
  refine loop_rule (a := a_lFirst) (j := 0) (m := 400) s_lFirst_sound (fun (i : Int) => F_lci p n ok k i) (fun (i : Int) => 0 ≤ i ∧ i ≤ k) (fun (i : Int) => (k - i).toNat) ?_
  rintro i h_inv ih
  try dsimp only at h_inv
  show VC.holds _ _ _ (a_lFirst.round s_lFirst 400 0 (F_lci p n ok k i))
  rw [t_lci0]
  try simp only [asRows_sl, asInt_int, asBool_bool, asStr_str, listOf_rowsOn, List.drop_zero, Prg.eta, Sta.eta, rowsOn_length, getD_drop, Nat.reduceAdd, rd_int, rd_PMem_name, rd_PMem_secret, rd_PMem_n, rd_PLabel_name, rd_PLabel_at_, rd_Ins_kind, rd_Ins_op, rd_Ins_d, rd_Ins_aR, rd_Ins_aN, rd_Ins_bR, rd_Ins_bN, rd_Ins_name, rd_Ins_target, rd_Ent_pc, rd_Ent_val, rd_Ent_addr, rd_Ent_fro, rd_Ent_next, rd_Ent_done, rd_Ent_known, rd_Ent_fault, rd_Place_reg, rd_Place_n, rd_Place_secret, rd_Obs_kind, rd_Obs_at_, rd_Dir_kind, rd_Dir_n, Prg.of_cells, Sta.of_cells]
  obtain ⟨h0, h1⟩ := h_inv
  have w1 : IntKind.wrap .i64 (i + 1) = i + 1 := wrap_small _ (by omega) (by omega)
  simp only [w1]
  have nxt := fun hd : i < k => ih (i + 1) ⟨by omega, by omega⟩ (by omega)
  refine br_dec (fun hd => ?_) (fun hd => ?_)
  · replace nxt := nxt hd
    have hs := atP_small hp.w hp.mems i
    have hok : (atP p i).2.2 = true := by rw [atP_ok2 hp.w i]; exact decide_eq_true ⟨h0, by omega, by omega⟩
    have hdf : dfS p i = differS p (atP p i).1 (atP p i).2.1 := by unfold dfS; rw [hok, Bool.true_and]
    refine ⟨PreOk.mk ⟨hp.w, hp.mems⟩ rfl, all_holds fun y hy => ?_⟩
    replace hy : y = atP p i := by rw [hy]; simp [v_pAt]
    rw [← hy] at hs hok hdf
    have pd : PreOk c_differ (p, y.1, y.2.1) [ap p, as_ y.1, as_ y.2.1] := PreOk.mk ⟨hp.mems, hs.1, hs.2, hp.len, hf⟩ rfl
    refine br_f (by rw [hok]; rfl) ⟨pd, all_holds fun z hz => ?_⟩
    replace hz : z = dfS p i := by rw [hz, hdf]; simp [v_differ]
    cases ok with
    | false =>
      have h3 := hs2 rfl i h0 hd
      rw [← hz] at h3
      exact br_f h3 (br_f rfl nxt)
    | true =>
      obtain ⟨n0, n1, n2, n3⟩ := hs1 rfl
      by_cases hin : i = n
      · have hzt : z = true := by rw [hz, hin]; exact n2
        refine br_t hzt (br_f rfl (br_dec (fun q => by omega) (fun _ => br_t rfl (br_beq (fun _ => ⟨pd, all_holds fun v hv => br_f ?_ nxt⟩) (fun q => absurd hin q)))))
        replace hv : v = dfS p i := by rw [hv, hdf]; simp [v_differ]
        rw [hv, ← hz, hzt]; rfl
      · refine br_holds (fun hzt => br_f rfl (br_dec (fun q => ?_) (fun _ => br_t rfl (br_beq (fun q => absurd q hin) (fun _ => nxt))))) (fun _ => br_t rfl (br_beq (fun q => absurd q hin) fun _ => nxt))
        have h3 := n3 i h0 q
        rw [← hz, hzt] at h3; cases h3
  · cases ok with
    | false => exact br_t rfl ⟨PreOk.mk trivial rfl, ret_le (RR.le_refl _)⟩
    | true =>
      obtain ⟨n0, n1, n2, n3⟩ := hs1 rfl
      exact br_f rfl (br_dec (fun _ => ⟨PreOk.mk trivial rfl, ret_le (RR.le_refl _)⟩) (fun q => by omega))
theorem c_lFirst_good : c_lFirst.fe.Good Try.prog := by
  refine FT.good c_lFirst ⟨Try.f22, by kernel_rfl, by decide +kernel, by kernel_rfl⟩ (fun ⟨m, u⟩ => by first | rfl | simp [c_lFirst, rrRef, rtri, rint, rpair, rsplit, rnewI, rnewE, rstab, rplaces, ri, rb, rib, rnum, rby, rss, rrun, rstep, rins, Sta.fresh]) fun ⟨m, u⟩ hp => ?_
  refine acalls_le s_lFirst_sound (fn := Try.f22) (a := a_lFirst) (nargs := 1) (tbl := [(7, [3, 4, 5, 7, 9])]) (by kernel_rfl) (by kernel_rfl) rfl (m := 400) ?_
  show VC.holds _ _ _ (a_lFirst.start s_lFirst 400 [al m])
  rw [t_lFirst]
  try simp only [asRows_sl, asInt_int, asBool_bool, asStr_str, listOf_rowsOn, List.drop_zero, Prg.eta, Sta.eta, rowsOn_length, getD_drop, Nat.reduceAdd, rd_int, rd_PMem_name, rd_PMem_secret, rd_PMem_n, rd_PLabel_name, rd_PLabel_at_, rd_Ins_kind, rd_Ins_op, rd_Ins_d, rd_Ins_aR, rd_Ins_aN, rd_Ins_bR, rd_Ins_bN, rd_Ins_name, rd_Ins_target, rd_Ent_pc, rd_Ent_val, rd_Ent_addr, rd_Ent_fro, rd_Ent_next, rd_Ent_done, rd_Ent_known, rd_Ent_fault, rd_Place_reg, rd_Place_n, rd_Place_secret, rd_Obs_kind, rd_Obs_at_, rd_Dir_kind, rd_Dir_n, Prg.of_cells, Sta.of_cells]
  try simp only [c_lFirst] at hp
  refine ⟨PreOk.mk trivial rfl, all_holds fun p hp0 => ?_⟩
  have hwf : WFM p := by rw [hp0]; exact (makeS_spec _).1
  clear hp0
  have hp := hwf.ok
  have hf : p.fuel ≤ 1000000 := by have := hwf.fuel; omega
  have hcn := cntS_nonneg hp.w
  refine ⟨PreOk.mk ⟨hp.w, hp.mems, hp.len, hf⟩ rfl, all_holds fun x hx => ⟨PreOk.mk ⟨hp.w, hp.mems⟩ rfl, all_holds fun y hy => ?_⟩⟩
  replace hx : x = sequS p 500 := by rw [hx]; simp [v_sequ]
  replace hy : y = countS p 500 := by rw [hy]; simp [v_count]
  unfold sequS at hx
  rw [← hy] at hx
  unfold countS at hy
  by_cases hc : min (max 500 0) 1000000 < cntS p
  · rw [if_pos hc] at hy
    subst hy
    rw [if_neg (by simp)] at hx
    subst hx
    exact br_f rfl (br_t rfl (br_t rfl (br_t rfl (br_t rfl ⟨PreOk.mk trivial rfl, ret_le (RR.le_refl _)⟩))))
  · rw [if_neg hc] at hy
    subst hy
    rw [if_pos rfl] at hx
    obtain ⟨g1, g2⟩ := seqK_spec p (cntS p).toNat 0
    subst hx
    dsimp only at g1 g2 ⊢
    generalize seqK p (cntS p).toNat 0 = r at g1 g2 ⊢
    refine br_f rfl (br_f rfl ?_)
    refine l_lci0 p r.1 r.2 (cntS p) hp hf (by omega) rfl hcn (fun h => ?_) (fun h j h1 h2 => (g2 h).2 j h1 (by omega)) 0 ⟨by omega, hcn⟩
    obtain ⟨a1, a2, a3, a4⟩ := g1 h
    exact ⟨a1, by omega, a3, a4⟩
end Go.Proofs.Ytclabjihjopclaa.Ax
end
