/- Several texts in one, in their order. -/
import Derived.Test.YtclabjihjopclaaPart3
section
/- Layer 19, by the document: sizes, counts. -/
namespace Go.Proofs.Ytclabjihjopclaa.Ax
open Go.RowKit
set_option linter.unusedVariables false
set_option linter.unusedSimpArgs false
def greatS : Int := 1099511627776
def rdIIIt : List A → Int × Int × Int
  | [.c (.int _ a), .c (.int _ b), .c (.int _ c)] => (a, b, c)
  | _ => default
def c_rTimes : FT (Int × Int × Int) := ⟨97, fun x => [ai x.1, ai x.2.1, ai x.2.2], rdIIIt, fun x => x.2.2 = greatS ∧ 0 ≤ x.1 ∧ x.1 ≤ greatS + 1 ∧ 0 ≤ x.2.1 ∧ x.2.1 ≤ 4398046511104, fun x => ri (min (x.1 * x.2.1) (greatS + 1)), false, fun x => by simp [ai, rdIIIt]⟩
noncomputable def a_rTimes : FnA := (fnA Try.prog Try.f97 3 [(7, [3, 4, 6, 7])]).getD ⟨0, .skip, [], []⟩
def s_rTimes : Sp := spT []
theorem s_rTimes_sound : s_rTimes.sound Try.prog := spT_sound fun e he => by cases he
set_option maxRecDepth 100000 in
theorem t_rTimes (a b c : Int) : a_rTimes.start s_rTimes 400 [ai a, ai b, ai c] =
(VC.br (decide ((0 : Int) < a))
 (VC.need (a ≠ (0 : Int))
 (VC.br (decide (IntKind.wrap IntKind.i64 (Int.tdiv c a) < b))
  (VC.ret (some (RR.c (Rc.d (D.int IntKind.i64 (IntKind.wrap IntKind.i64 (c + (1 : Int))))))))
  (VC.ret (some (RR.c (Rc.d (D.int IntKind.i64 (IntKind.wrap IntKind.i64 (a * b)))))))))
 (VC.ret (some (RR.c (Rc.d (D.int IntKind.i64 (IntKind.wrap IntKind.i64 (a * b)))))))) := by kernel_rfl
theorem c_rTimes_good : c_rTimes.fe.Good Try.prog := by
  refine FT.good c_rTimes ⟨Try.f97, by kernel_rfl, by decide +kernel, by kernel_rfl⟩ (fun ⟨a, b, c⟩ => by first | rfl | simp [c_rTimes, rrRef, rtri, rint, rpair, rsplit, rnewI, rnewE, rstab, rplaces, ri, rb, rib, rnum, rby, rss, rrun, rstep, rins, Sta.fresh]) fun ⟨a, b, c⟩ hp => ?_
  refine acalls_le s_rTimes_sound (fn := Try.f97) (a := a_rTimes) (nargs := 3) (tbl := [(7, [3, 4, 6, 7])]) (by kernel_rfl) (by kernel_rfl) rfl (m := 400) ?_
  show VC.holds _ _ _ (a_rTimes.start s_rTimes 400 [ai a, ai b, ai c])
  rw [t_rTimes]
  try simp only [asRows_sl, asInt_int, asBool_bool, asStr_str, listOf_rowsOn, List.drop_zero, Prg.eta, Sta.eta, rowsOn_length, getD_drop, Nat.reduceAdd, rd_int, rd_PMem_name, rd_PMem_secret, rd_PMem_n, rd_PLabel_name, rd_PLabel_at_, rd_Ins_kind, rd_Ins_op, rd_Ins_d, rd_Ins_aR, rd_Ins_aN, rd_Ins_bR, rd_Ins_bN, rd_Ins_name, rd_Ins_target, rd_Ent_pc, rd_Ent_val, rd_Ent_addr, rd_Ent_fro, rd_Ent_next, rd_Ent_done, rd_Ent_known, rd_Ent_fault, rd_Place_reg, rd_Place_n, rd_Place_secret, rd_Obs_kind, rd_Obs_at_, rd_Dir_kind, rd_Dir_n, Prg.of_cells, Sta.of_cells]
  try simp only [c_rTimes] at hp
  obtain ⟨hc, h1, h2, h3, h4⟩ := hp
  dsimp only [greatS] at hc h2
  subst hc
  have e : c_rTimes.ans (a, b, 1099511627776) = ri (min (a * b) 1099511627777) := rfl
  rw [e]
  have hab : 0 ≤ a * b := Int.mul_nonneg h1 h3
  refine br_dec (fun hpos => ?_) (fun hpos => ?_)
  · have hX : Int.tdiv 1099511627776 a = 1099511627776 / a := Int.tdiv_eq_ediv_of_nonneg (by omega)
    have hb : 0 ≤ 1099511627776 / a := Int.ediv_nonneg (by omega) h1
    have hc : 1099511627776 / a ≤ 1099511627776 := Int.ediv_le_self _ (by omega)
    rw [hX, wrap_small (1099511627776 / a) (by omega) (by omega)]
    have key : 1099511627776 / a < b ↔ 1099511627776 < b * a := Int.ediv_lt_iff_lt_mul hpos
    rw [Int.mul_comm b a] at key
    refine ⟨by omega, br_dec (fun h => ret_le (RR.le_of_eq ?_)) (fun h => ret_le (RR.le_of_eq ?_))⟩
    · rw [show min (a * b) 1099511627777 = 1099511627777 by omega]; rfl
    · rw [wrap_small (a * b) (by omega) (by omega), show min (a * b) 1099511627777 = a * b by omega]; rfl
  · have : a = 0 := by omega
    subst this
    refine ret_le (RR.le_of_eq ?_)
    rw [Int.zero_mul, wrap_small 0 (by omega) (by omega)]; rfl
noncomputable def v_rTimes : Int × Int × Int → Int := fun x => min (x.1 * x.2.1) (greatS + 1)
noncomputable def sh_rTimes : Int → RR := fun y => ri y
theorem e_rTimes (x : Int × Int × Int) : sh_rTimes (v_rTimes x) = c_rTimes.ans x := rfl
def gpS (p : Prg) (n : Nat) : Int := min (sizeS p.w ^ n) (greatS + 1)
def rii (x : Int × Int) : RR := .tup [.inl (.d (.int .i64 x.1)), .inl (.d (.int .i64 x.2))]
def c_sizes : FT (Prg × Int) := ⟨96, fun x => [ap x.1, ai x.2], rdPIq, fun x => okW x.1.w ∧ Mems x.1.mems ∧ x.2 = greatS, fun x => rii (gpS x.1 (openS x.1).length, gpS x.1 (secS x.1).length), false, fun x => by simp [ap, ai, rdPIq]⟩
noncomputable def a_sizes : FnA := (fnA Try.prog Try.f96 2 [(4, [1, 2, 6, 7, 8, 9, 1000008000000900001003])]).getD ⟨0, .skip, [], []⟩
noncomputable def s_sizes : Sp := spT [c_rPlaces.gfe v_rPlaces sh_rPlaces e_rPlaces, c_rTimes.gfe v_rTimes sh_rTimes e_rTimes, c_rSize.fe]
theorem s_sizes_sound : s_sizes.sound Try.prog := spT_sound fun e he => by
  simp only [List.mem_cons, List.not_mem_nil, or_false] at he
  rcases he with rfl | rfl | rfl
  · exact FT.gfe_good c_rPlaces_good
  · exact FT.gfe_good c_rTimes_good
  · exact c_rSize_good
def F_sizes (p : Prg) (most pub sec : Int) (q : List Place) (i : Int) : St := ⟨mkS 37 [(1, vi most), (2, vp 128), (6, vi pub), (7, vi sec), (8, vo 900001 (rowsOn q).length), (9, vi i)], [(128, bx p.cells), (900001, ba 3 (rowsOn q))]⟩
set_option maxRecDepth 100000 in
theorem t_sizes (p : Prg) (most : Int) : a_sizes.start s_sizes 400 [ap p, ai most] =
(VC.need (PreOk c_rPlaces p [A.agg (Prg.cells p)])
(VC.all (v_rPlaces { w := p.w, window := p.window, fuel := p.fuel, r0 := p.r0, r1 := p.r1, r2 := p.r2, r3 := p.r3, mems := listOf PMem (rowsOn p.mems), labels := listOf PLabel (rowsOn p.labels), ins := listOf Ins (rowsOn p.ins) }) fun (y2 : List Place) =>
(FnA.at_ a_sizes 0 (F_sizes p most (1 : Int) (1 : Int) y2 (0 : Int))))) := by kernel_rfl
set_option maxRecDepth 100000 in
theorem t_sizes0 (p : Prg) (most pub sec : Int) (q : List Place) (i : Int) : a_sizes.round s_sizes 400 0 (F_sizes p most pub sec q i) =
(VC.br (decide (i < (↑(List.length (rowsOn q)) : Int)))
 (VC.need ((0 : Int) ≤ i ∧ i < (↑(List.length (rowsOn q)) : Int))
 (VC.need (Int.toNat i < List.length (rowsOn q) ∧ List.length (rowAt (rowsOn q) (Int.toNat i)) = (3 : Nat) ∧ okSh [Kd.bool] (List.drop (2 : Nat) (rowAt (rowsOn q) (Int.toNat i))))
 (VC.br (asBool (List.getD (List.drop (2 : Nat) (rowAt (rowsOn q) (Int.toNat i))) (0 : Nat) D.nilp))
  (VC.need (PreOk c_rSize p.w [A.c (D.int IntKind.i64 p.w)])
  (VC.need (PreOk c_rTimes (sec, sizeS p.w, most) [A.c (D.int IntKind.i64 sec), A.c (D.int IntKind.i64 (sizeS p.w)), A.c (D.int IntKind.i64 most)])
  (VC.all (v_rTimes (sec, sizeS p.w, most)) fun (y6 : Int) =>
  (FnA.at_ a_sizes 0 (F_sizes p most pub y6 q (IntKind.wrap IntKind.i64 (i + (1 : Int))))))))
  (VC.need (PreOk c_rSize p.w [A.c (D.int IntKind.i64 p.w)])
  (VC.need (PreOk c_rTimes (pub, sizeS p.w, most) [A.c (D.int IntKind.i64 pub), A.c (D.int IntKind.i64 (sizeS p.w)), A.c (D.int IntKind.i64 most)])
  (VC.all (v_rTimes (pub, sizeS p.w, most)) fun (y6 : Int) =>
  (FnA.at_ a_sizes 0 (F_sizes p most y6 sec q (IntKind.wrap IntKind.i64 (i + (1 : Int)))))))))))
 (VC.ret (some (RR.tup [Sum.inl (Rc.d (D.int IntKind.i64 pub)), Sum.inl (Rc.d (D.int IntKind.i64 sec))])))) := by kernel_rfl
theorem gpS_succ {p : Prg} (h : okW p.w) (n : Nat) : min (gpS p n * sizeS p.w) (greatS + 1) = gpS p (n + 1) := by
  have h1 := size_pos h
  have hx : 0 < sizeS p.w ^ n := Int.pow_pos (by omega)
  unfold gpS
  rw [Int.pow_succ]
  generalize sizeS p.w ^ n = x at *
  generalize sizeS p.w = S at *
  by_cases hf : x ≤ greatS + 1
  · rw [show min x (greatS + 1) = x by omega]
  · have a1 : (greatS + 1) * 1 ≤ (greatS + 1) * S := Int.mul_le_mul_of_nonneg_left (by omega) (by decide)
    have a2 : (greatS + 1) * S ≤ x * S := Int.mul_le_mul_of_nonneg_right (by omega) (by omega)
    rw [show min x (greatS + 1) = greatS + 1 by omega]
    omega
theorem gpS_zero (p : Prg) : gpS p 0 = 1 := by unfold gpS; rw [Int.pow_zero]; decide
theorem gpS_pos {p : Prg} (h : okW p.w) (n : Nat) : 1 ≤ gpS p n ∧ gpS p n ≤ greatS + 1 := by
  have : 0 < sizeS p.w ^ n := Int.pow_pos (by have := size_pos h; omega)
  unfold gpS greatS
  omega
theorem placeS_ok (x : List Place) (n : Int) (h0 : 0 ≤ n) (h : n < x.length) : n.toNat < x.length ∧ (rowAt (rowsOn x) n.toNat).length = 3 ∧ okSh [Kd.bool] (List.drop 2 (rowAt (rowsOn x) n.toNat)) :=
  ⟨by omega, by rw [rowAt_on x n h0 h]; rfl, by rw [rowAt_on x n h0 h]; rfl⟩
theorem l_sizes0 (p : Prg) (q : List Place) (hw : okW p.w) (hl : q.length ≤ 10000) : ∀ i_ : Int × Int × Int, (fun (i : Int × Int × Int) => 0 ≤ i.1 ∧ i.1 ≤ q.length ∧ i.2.1 = gpS p (idxW false (q.take i.1.toNat) 0).length ∧ i.2.2 = gpS p (idxW true (q.take i.1.toNat) 0).length) i_ → (a_sizes.at_ 0 ((fun (i : Int × Int × Int) => F_sizes p greatS i.2.1 i.2.2 q i.1) i_)).holds s_sizes.cx a_sizes.rs (fun r => r.le (rii (gpS p (idxW false q 0).length, gpS p (idxW true q 0).length))) := by
  refine loop_rule (a := a_sizes) (j := 0) (m := 400) s_sizes_sound (fun (i : Int × Int × Int) => F_sizes p greatS i.2.1 i.2.2 q i.1) (fun (i : Int × Int × Int) => 0 ≤ i.1 ∧ i.1 ≤ q.length ∧ i.2.1 = gpS p (idxW false (q.take i.1.toNat) 0).length ∧ i.2.2 = gpS p (idxW true (q.take i.1.toNat) 0).length) (fun (i : Int × Int × Int) => ((q.length : Int) - i.1).toNat) ?_
  rintro ⟨i, pub, sec⟩ h_inv ih
  try dsimp only at h_inv
  replace ih := fun (v0 : Int) (v1 : Int) (v2 : Int) => ih (v0, v1, v2)
  try dsimp only at ih
  show VC.holds _ _ _ (a_sizes.round s_sizes 400 0 (F_sizes p greatS pub sec q i))
  rw [t_sizes0]
  try simp only [asRows_sl, asInt_int, asBool_bool, asStr_str, listOf_rowsOn, List.drop_zero, Prg.eta, Sta.eta, rowsOn_length, getD_drop, Nat.reduceAdd, rd_int, rd_PMem_name, rd_PMem_secret, rd_PMem_n, rd_PLabel_name, rd_PLabel_at_, rd_Ins_kind, rd_Ins_op, rd_Ins_d, rd_Ins_aR, rd_Ins_aN, rd_Ins_bR, rd_Ins_bN, rd_Ins_name, rd_Ins_target, rd_Ent_pc, rd_Ent_val, rd_Ent_addr, rd_Ent_fro, rd_Ent_next, rd_Ent_done, rd_Ent_known, rd_Ent_fault, rd_Place_reg, rd_Place_n, rd_Place_secret, rd_Obs_kind, rd_Obs_at_, rd_Dir_kind, rd_Dir_n, Prg.of_cells, Sta.of_cells]
  obtain ⟨h0, h1, h2, h3⟩ := h_inv
  have w1 : IntKind.wrap .i64 (i + 1) = i + 1 := wrap_small _ (by omega) (by omega)
  simp only [w1]
  have en : (i + 1).toNat = i.toNat + 1 := by omega
  have b0 := gpS_pos hw (idxW false (q.take i.toNat) 0).length
  have b1 := gpS_pos hw (idxW true (q.take i.toNat) 0).length
  rw [← h2] at b0
  rw [← h3] at b1
  have hs := size_pos hw
  refine br_dec (fun hd => ?_) (fun hd => ?_)
  · have ht := fun b => idxW_take b q i.toNat (by omega)
    have hx := rd_getN q i h0 hd
    rw [← hx] at ht
    refine ⟨⟨h0, hd⟩, placeS_ok q i h0 hd, br_holds (fun hb => ?_) (fun hb => ?_)⟩
    · refine ⟨PreOk.mk trivial rfl, PreOk.mk ⟨rfl, by dsimp only; omega, by dsimp only; omega, by dsimp only; omega, by dsimp only; omega⟩ rfl, all_holds fun y hy => ?_⟩
      refine ih _ _ _ ⟨by omega, by omega, ?_, ?_⟩ (by omega)
      · rw [en, ht false, if_neg (by rw [hb]; decide), List.append_nil]; exact h2
      · rw [en, ht true, if_pos hb, List.length_append, hy]
        show min (sec * sizeS p.w) (greatS + 1) = _
        rw [h3]; exact gpS_succ hw _
    · refine ⟨PreOk.mk trivial rfl, PreOk.mk ⟨rfl, by dsimp only; omega, by dsimp only; omega, by dsimp only; omega, by dsimp only; omega⟩ rfl, all_holds fun y hy => ?_⟩
      refine ih _ _ _ ⟨by omega, by omega, ?_, ?_⟩ (by omega)
      · rw [en, ht false, if_pos hb, List.length_append, hy]
        show min (pub * sizeS p.w) (greatS + 1) = _
        rw [h2]; exact gpS_succ hw _
      · rw [en, ht true, if_neg (by rw [hb]; decide), List.append_nil]; exact h3
  · have hi : i.toNat = q.length := by omega
    rw [hi, List.take_length] at h2 h3
    refine ret_le ?_
    rw [h2, h3]
    exact RR.le_refl _
theorem c_sizes_good : c_sizes.fe.Good Try.prog := by
  refine FT.good c_sizes ⟨Try.f96, by kernel_rfl, by decide +kernel, by kernel_rfl⟩ (fun ⟨p, most⟩ => by first | rfl | simp [c_sizes, rrRef, rtri, rint, rpair, rsplit, rnewI, rnewE, rstab, rplaces, ri, rb, rib, rnum, rby, rss, rrun, rstep, rins, rii, Sta.fresh]) fun ⟨p, most⟩ hp => ?_
  refine acalls_le s_sizes_sound (fn := Try.f96) (a := a_sizes) (nargs := 2) (tbl := [(4, [1, 2, 6, 7, 8, 9, 1000008000000900001003])]) (by kernel_rfl) (by kernel_rfl) rfl (m := 400) ?_
  show VC.holds _ _ _ (a_sizes.start s_sizes 400 [ap p, ai most])
  rw [t_sizes]
  try simp only [asRows_sl, asInt_int, asBool_bool, asStr_str, listOf_rowsOn, List.drop_zero, Prg.eta, Sta.eta, rowsOn_length, getD_drop, Nat.reduceAdd, rd_int, rd_PMem_name, rd_PMem_secret, rd_PMem_n, rd_PLabel_name, rd_PLabel_at_, rd_Ins_kind, rd_Ins_op, rd_Ins_d, rd_Ins_aR, rd_Ins_aN, rd_Ins_bR, rd_Ins_bN, rd_Ins_name, rd_Ins_target, rd_Ent_pc, rd_Ent_val, rd_Ent_addr, rd_Ent_fro, rd_Ent_next, rd_Ent_done, rd_Ent_known, rd_Ent_fault, rd_Place_reg, rd_Place_n, rd_Place_secret, rd_Obs_kind, rd_Obs_at_, rd_Dir_kind, rd_Dir_n, Prg.of_cells, Sta.of_cells]
  try simp only [c_sizes] at hp
  obtain ⟨hw, hm, hg⟩ := hp
  have hg : most = greatS := hg
  have hm : Mems p.mems := hm
  subst hg
  have hl := places_len p hm
  refine ⟨PreOk.mk hm rfl, all_holds fun y hy => ?_⟩
  replace hy : y = placesS p := by rw [hy]; simp [v_rPlaces]
  subst hy
  exact l_sizes0 p (placesS p) hw (by omega) (0, 1, 1) ⟨by omega, by dsimp only; omega, (gpS_zero p).symm, (gpS_zero p).symm⟩
noncomputable def v_sizes : Prg × Int → Int × Int := fun x => (gpS x.1 (openS x.1).length, gpS x.1 (secS x.1).length)
noncomputable def sh_sizes : Int × Int → RR := fun y => rii y
theorem e_sizes (x : Prg × Int) : sh_sizes (v_sizes x) = c_sizes.ans x := rfl
def c_rCount : FT (Prg × Int) := ⟨51, fun x => [ap x.1, ai x.2], rdPIq, fun x => okW x.1.w ∧ Mems x.1.mems, fun x => rib (countS x.1 x.2), false, fun x => by simp [ap, ai, rdPIq]⟩
noncomputable def a_rCount : FnA := (fnA Try.prog Try.f51 2 []).getD ⟨0, .skip, [], []⟩
noncomputable def s_rCount : Sp := spT [c_sizes.gfe v_sizes sh_sizes e_sizes, c_rTimes.gfe v_rTimes sh_rTimes e_rTimes]
theorem s_rCount_sound : s_rCount.sound Try.prog := spT_sound fun e he => by
  simp only [List.mem_cons, List.not_mem_nil, or_false] at he
  rcases he with rfl | rfl
  · exact FT.gfe_good c_sizes_good
  · exact FT.gfe_good c_rTimes_good
set_option maxRecDepth 100000 in
theorem t_rCount (p : Prg) (most : Int) : a_rCount.start s_rCount 400 [ap p, ai most] =
(VC.need (PreOk c_sizes (Prg.of (Prg.cells p), (1099511627776 : Int)) [A.agg (Prg.cells p), A.c (D.int IntKind.i64 (1099511627776 : Int))])
(VC.all ((gpS (Prg.of (Prg.cells p)) (List.length (openS (Prg.of (Prg.cells p)))), gpS (Prg.of (Prg.cells p)) (List.length (secS (Prg.of (Prg.cells p)))))) fun (y2 : Int × Int) =>
(VC.br (decide (y2.snd < (2 : Int)))
 (VC.ret (some (RR.tup [Sum.inl (Rc.d (D.int IntKind.i64 (0 : Int))), Sum.inl (Rc.d (D.bool true))])))
 (VC.br (decide (y2.snd < (2097152 : Int)))
  (VC.need ((2 : Int) ≠ (0 : Int))
  (VC.need (PreOk c_rTimes (y2.fst, IntKind.wrap IntKind.i64 (Int.tdiv (IntKind.wrap IntKind.i64 (y2.snd * IntKind.wrap IntKind.i64 (y2.snd - (1 : Int)))) (2 : Int)), (1099511627776 : Int)) [A.c (D.int IntKind.i64 y2.fst), A.c (D.int IntKind.i64 (IntKind.wrap IntKind.i64 (Int.tdiv (IntKind.wrap IntKind.i64 (y2.snd * IntKind.wrap IntKind.i64 (y2.snd - (1 : Int)))) (2 : Int)))), A.c (D.int IntKind.i64 (1099511627776 : Int))])
  (VC.all (v_rTimes (y2.fst, IntKind.wrap IntKind.i64 (Int.tdiv (IntKind.wrap IntKind.i64 (y2.snd * IntKind.wrap IntKind.i64 (y2.snd - (1 : Int)))) (2 : Int)), (1099511627776 : Int))) fun (y3 : Int) =>
  (VC.br (decide (min (max most (0 : Int)) (1000000 : Int) < y3))
   (VC.ret (some (RR.tup [Sum.inl (Rc.d (D.int IntKind.i64 (0 : Int))), Sum.inl (Rc.d (D.bool false))])))
   (VC.ret (some (RR.tup [Sum.inl (Rc.d (D.int IntKind.i64 y3)), Sum.inl (Rc.d (D.bool true))])))))))
  (VC.br (decide (min (max most (0 : Int)) (1000000 : Int) < (1099511627777 : Int)))
   (VC.ret (some (RR.tup [Sum.inl (Rc.d (D.int IntKind.i64 (0 : Int))), Sum.inl (Rc.d (D.bool false))])))
   (VC.ret (some (RR.tup [Sum.inl (Rc.d (D.int IntKind.i64 (1099511627777 : Int))), Sum.inl (Rc.d (D.bool true))])))))))) := by kernel_rfl
theorem far_mul {a b : Int} (ha : farS ≤ a) (hb : 1 ≤ b) : farS ≤ a * b := by
  have h1 : farS * 1 ≤ farS * b := Int.mul_le_mul_of_nonneg_left hb (by decide)
  have h2 : farS * b ≤ a * b := Int.mul_le_mul_of_nonneg_right ha (by omega)
  omega
/-- The document's count is the program's. -/
theorem count_ref {p : Prg} (hw : okW p.w) (M : Int) (hM0 : 0 ≤ M) (hM : M ≤ 1000000) :
    (gpS p (secS p).length < 2 → cntS p = 0) ∧
    (2 ≤ gpS p (secS p).length → gpS p (secS p).length < 2097152 → (M < min (gpS p (openS p).length * (gpS p (secS p).length * (gpS p (secS p).length - 1) / 2)) (greatS + 1) ↔ M < cntS p) ∧ (¬ M < cntS p → min (gpS p (openS p).length * (gpS p (secS p).length * (gpS p (secS p).length - 1) / 2)) (greatS + 1) = cntS p)) ∧
    (2097152 ≤ gpS p (secS p).length → M < cntS p) := by
  have hs := size_pos hw
  have hX : 0 < sizeS p.w ^ (secS p).length := Int.pow_pos (by omega)
  have hY : 0 < sizeS p.w ^ (openS p).length := Int.pow_pos (by omega)
  unfold cntS twoS powS gpS
  generalize sizeS p.w ^ (secS p).length = X at *
  generalize sizeS p.w ^ (openS p).length = Y at *
  refine ⟨fun h => ?_, fun h1 h2 => ?_, fun h => ?_⟩
  · have : X = 1 := by unfold greatS at h; omega
    subst this
    unfold farS
    rw [show (min 1 1073741824 : Int) = 1 by decide, show (min (1 * (1 - 1) / 2) 1073741824 : Int) = 0 by decide, Int.mul_zero]
    decide
  · have eX : min X (greatS + 1) = X := by unfold greatS at h1 h2 ⊢; omega
    have eA : min X farS = X := by unfold greatS at h1 h2; unfold farS; omega
    rw [eX] at h1 h2 ⊢
    rw [eA]
    have ht : 1 ≤ X * (X - 1) / 2 := by
      have := tri_mono (show (1 : Int) ≤ 2 by decide) h1
      omega
    generalize X * (X - 1) / 2 = T at *
    by_cases hYf : Y ≤ farS
    · have e1 : min Y (greatS + 1) = Y := by unfold greatS farS at *; omega
      have e2 : min Y farS = Y := by omega
      rw [e1, e2]
      by_cases hTf : T ≤ farS
      · rw [show min T farS = T by omega]
        unfold greatS farS at *
        constructor <;> omega
      · rw [show min T farS = farS by omega]
        have g1 := far_mul (a := farS) (b := Y) (Int.le_refl _) (by omega)
        have g2 := far_mul (a := T) (b := Y) (by omega) (by omega)
        rw [Int.mul_comm] at g1 g2
        unfold greatS farS at *
        constructor <;> omega
    · rw [show min Y farS = farS by omega]
      have g1 := far_mul (a := farS) (b := min T farS) (Int.le_refl _) (by unfold farS; omega)
      have g2 := far_mul (a := min Y (greatS + 1)) (b := T) (by unfold greatS farS at *; omega) ht
      unfold greatS farS at *
      constructor <;> omega
  · have hA : 2097152 ≤ min X farS := by unfold greatS at h; unfold farS; omega
    have ht := tri_mono (show (1 : Int) ≤ 2097152 by decide) hA
    have hE : min (min X farS * (min X farS - 1) / 2) farS = farS := by unfold farS at *; omega
    rw [hE]
    have g1 := far_mul (a := farS) (b := min Y farS) (Int.le_refl _) (by unfold farS; omega)
    rw [Int.mul_comm] at g1
    unfold farS at *
    omega
theorem c_rCount_good : c_rCount.fe.Good Try.prog := by
  refine FT.good c_rCount ⟨Try.f51, by kernel_rfl, by decide +kernel, by kernel_rfl⟩ (fun ⟨p, most⟩ => by first | rfl | simp [c_rCount, rrRef, rtri, rint, rpair, rsplit, rnewI, rnewE, rstab, rplaces, ri, rb, rib, rnum, rby, rss, rrun, rstep, rins, rii, Sta.fresh]) fun ⟨p, most⟩ hp => ?_
  refine acalls_le s_rCount_sound (fn := Try.f51) (a := a_rCount) (nargs := 2) (tbl := []) (by kernel_rfl) (by kernel_rfl) rfl (m := 400) ?_
  show VC.holds _ _ _ (a_rCount.start s_rCount 400 [ap p, ai most])
  rw [t_rCount]
  try simp only [asRows_sl, asInt_int, asBool_bool, asStr_str, listOf_rowsOn, List.drop_zero, Prg.eta, Sta.eta, rowsOn_length, getD_drop, Nat.reduceAdd, rd_int, rd_PMem_name, rd_PMem_secret, rd_PMem_n, rd_PLabel_name, rd_PLabel_at_, rd_Ins_kind, rd_Ins_op, rd_Ins_d, rd_Ins_aR, rd_Ins_aN, rd_Ins_bR, rd_Ins_bN, rd_Ins_name, rd_Ins_target, rd_Ent_pc, rd_Ent_val, rd_Ent_addr, rd_Ent_fro, rd_Ent_next, rd_Ent_done, rd_Ent_known, rd_Ent_fault, rd_Place_reg, rd_Place_n, rd_Place_secret, rd_Obs_kind, rd_Obs_at_, rd_Dir_kind, rd_Dir_n, Prg.of_cells, Sta.of_cells]
  try simp only [c_rCount] at hp
  obtain ⟨hw, hm⟩ := hp
  have e : c_rCount.ans (p, most) = rib (countS p most) := rfl
  rw [e]
  have b0 := gpS_pos hw (openS p).length
  have b1 := gpS_pos hw (secS p).length
  obtain ⟨k1, k2, k3⟩ := count_ref hw (min (max most 0) 1000000) (by omega) (by omega)
  refine ⟨PreOk.mk ⟨hw, hm, rfl⟩ rfl, all_holds fun y hy => ?_⟩
  replace hy : y = (gpS p (openS p).length, gpS p (secS p).length) := by rw [hy]
  subst hy
  dsimp only at *
  generalize gpS p (openS p).length = P at *
  generalize gpS p (secS p).length = X at *
  unfold countS
  refine br_dec (fun h => ?_) (fun h => br_dec (fun h2 => ?_) (fun h2 => ?_))
  · rw [k1 h, if_neg (by omega)]; exact ret_le (RR.le_refl _)
  · obtain ⟨j1, j2⟩ := k2 (by omega) h2
    have hx := tri_mono (show 1 ≤ X by omega) (show X ≤ 2097152 by omega)
    have hx0 := tri_pos (show 1 ≤ X by omega)
    rw [wrap_small (X - 1) (by omega) (by omega), wrap_small (X * (X - 1)) (by omega) (by omega), Int.tdiv_eq_ediv_of_nonneg hx0, wrap_small (X * (X - 1) / 2) (by omega) (by omega)]
    refine ⟨by decide, PreOk.mk ⟨rfl, by dsimp only; omega, by dsimp only; omega, by dsimp only; omega, by dsimp only; omega⟩ rfl, all_holds fun z hz => ?_⟩
    replace hz : z = min (P * (X * (X - 1) / 2)) (greatS + 1) := hz
    rw [← hz] at j1 j2
    refine br_dec (fun h3 => ?_) (fun h3 => ?_)
    · rw [if_pos (j1.1 h3)]; exact ret_le (RR.le_refl _)
    · have h4 : ¬ min (max most 0) 1000000 < cntS p := fun q => h3 (j1.2 q)
      rw [if_neg h4, ← j2 h4]; exact ret_le (RR.le_refl _)
  · rw [if_pos (k3 (by omega))]
    exact br_dec (fun _ => ret_le (RR.le_refl _)) (fun q => by omega)
noncomputable def v_rCount : Prg × Int → Int × Bool := fun x => countS x.1 x.2
noncomputable def sh_rCount : Int × Bool → RR := fun y => rib y
theorem e_rCount (x : Prg × Int) : sh_rCount (v_rCount x) = c_rCount.ans x := rfl
def rdPII : List A → Prg × Int × Int
  | [.agg l, .c (.int _ i), .c (.int _ j)] => (Prg.of l, i, j)
  | _ => default
def c_rhold : FT (Prg × Int × Int) := ⟨98, fun x => [ap x.1, ai x.2.1, ai x.2.2], rdPII, fun x => okW x.1.w ∧ Mems x.1.mems ∧ 0 ≤ x.2.1 ∧ x.2.1 ≤ 1000000000 ∧ 0 ≤ x.2.2 ∧ x.2.2 ≤ 1000000000, fun x => .agg (startS x.1 (rowP x.1 x.2.1 x.2.2)).1.fresh, false, fun x => by simp [ap, ai, rdPII]⟩
noncomputable def v_rStart : Prg × List Int → Sta × Bool := fun x => startS x.1 x.2
noncomputable def sh_rStart : Sta × Bool → RR := fun y => rstab y
theorem e_rStart (x : Prg × List Int) : sh_rStart (v_rStart x) = c_rStart.ans x := rfl
noncomputable def a_rhold : FnA := (fnA Try.prog Try.f98 3 [(5, [1, 2, 3, 6, 7, 8, 9, 10, 1000007000000900001003, 1000008000000900002001])]).getD ⟨0, .skip, [], []⟩
noncomputable def s_rhold : Sp := spT [c_rPlaces.gfe v_rPlaces sh_rPlaces e_rPlaces, c_rSize.fe, c_rStart.gfe v_rStart sh_rStart e_rStart]
theorem s_rhold_sound : s_rhold.sound Try.prog := spT_sound fun e he => by
  simp only [List.mem_cons, List.not_mem_nil, or_false] at he
  rcases he with rfl | rfl | rfl
  · exact FT.gfe_good c_rPlaces_good
  · exact c_rSize_good
  · exact FT.gfe_good c_rStart_good
def zb2 : Blk := bc [.d (.int .i64 0), .d (.int .i64 0), .d (.int .i64 0), .d (.int .i64 0), .nil, .nil, .d (.int .i64 0)]
def F_rh (p : Prg) (S u o : Int) (q : List Place) (n : Nat) (X : List (List D)) (i : Int) : St := ⟨mkS 58 [(1, vi u), (2, vi o), (3, vp 192), (6, vp 384), (7, vo 900001 (rowsOn q).length), (8, vo 900002 n), (9, vi S), (10, vi i)], [(192, bx p.cells), (384, zb2), (900001, ba 3 (rowsOn q)), (900002, ba 1 X)]⟩
set_option maxRecDepth 100000 in
theorem t_rhold (p : Prg) (u o : Int) : a_rhold.start s_rhold 400 [ap p, ai u, ai o] =
(VC.need (PreOk c_rPlaces p [A.agg (Prg.cells p)])
(VC.all (v_rPlaces { w := p.w, window := p.window, fuel := p.fuel, r0 := p.r0, r1 := p.r1, r2 := p.r2, r3 := p.r3, mems := listOf PMem (rowsOn p.mems), labels := listOf PLabel (rowsOn p.labels), ins := listOf Ins (rowsOn p.ins) }) fun (y3 : List Place) =>
(VC.need ((↑(List.length (rowsOn y3)) : Int) = (↑(List.length (rowsOn y3)) : Int) ∧ (0 : Int) ≤ (↑(List.length (rowsOn y3)) : Int) ∧ (9 : Int) * (↑(List.length (rowsOn y3)) : Int) ≤ (140737488355328 : Int))
(VC.need (PreOk c_rSize p.w [A.c (D.int IntKind.i64 p.w)])
(FnA.at_ a_rhold 0 (F_rh p (sizeS p.w) u o y3 (Int.toNat (↑(List.length (rowsOn y3)) : Int)) (List.replicate (Int.toNat (↑(List.length (rowsOn y3)) : Int)) [D.int IntKind.i64 (0 : Int)]) (IntKind.wrap IntKind.i64 ((↑(List.length (rowsOn y3)) : Int) - (1 : Int))))))))) := by kernel_rfl
set_option maxRecDepth 100000 in
theorem t_rhold0 (p : Prg) (S u o : Int) (q : List Place) (n : Nat) (X : List (List D)) (i : Int) : a_rhold.round s_rhold 400 0 (F_rh p S u o q n X i) =
(VC.br (decide ((0 : Int) ≤ i))
 (VC.need ((0 : Int) ≤ i ∧ i < (↑(List.length (rowsOn q)) : Int))
 (VC.need (Int.toNat i < List.length (rowsOn q) ∧ List.length (rowAt (rowsOn q) (Int.toNat i)) = (3 : Nat) ∧ okSh [Kd.bool] (List.drop (2 : Nat) (rowAt (rowsOn q) (Int.toNat i))))
 (VC.br (asBool (List.getD (List.drop (2 : Nat) (rowAt (rowsOn q) (Int.toNat i))) (0 : Nat) D.nilp))
  (VC.need (S ≠ (0 : Int))
  (VC.need (S ≠ (0 : Int))
  (VC.need ((0 : Int) ≤ i ∧ i < (↑n : Int))
  (VC.need (Int.toNat i < List.length X ∧ List.length (rowAt X (Int.toNat i)) = (1 : Nat) ∧ (1 : Nat) ≤ (1 : Nat))
  (FnA.at_ a_rhold 0 (F_rh p S u (IntKind.wrap IntKind.i64 (Int.tdiv o S)) q n (List.set X (Int.toNat i) (splice (rowAt X (Int.toNat i)) (0 : Nat) [D.int IntKind.i64 (Int.tmod o S)])) (IntKind.wrap IntKind.i64 (i - (1 : Int)))))))))
  (VC.need (S ≠ (0 : Int))
  (VC.need (S ≠ (0 : Int))
  (VC.need ((0 : Int) ≤ i ∧ i < (↑n : Int))
  (VC.need (Int.toNat i < List.length X ∧ List.length (rowAt X (Int.toNat i)) = (1 : Nat) ∧ (1 : Nat) ≤ (1 : Nat))
  (FnA.at_ a_rhold 0 (F_rh p S (IntKind.wrap IntKind.i64 (Int.tdiv u S)) o q n (List.set X (Int.toNat i) (splice (rowAt X (Int.toNat i)) (0 : Nat) [D.int IntKind.i64 (Int.tmod u S)])) (IntKind.wrap IntKind.i64 (i - (1 : Int))))))))))))
 (VC.need (PreOk c_rStart (Prg.of (Prg.cells p), listOf Int X) [A.agg (Prg.cells p), A.c (D.sl X)])
 (VC.all (v_rStart (Prg.of (Prg.cells p), listOf Int X)) fun (y8 : Sta × Bool) =>
 (VC.ret (some (RR.agg [Rc.d (D.int IntKind.i64 y8.fst.r0), Rc.d (D.int IntKind.i64 y8.fst.r1), Rc.d (D.int IntKind.i64 y8.fst.r2), Rc.d (D.int IntKind.i64 y8.fst.r3), Rc.new (1 : Nat) (rowsOn y8.fst.mem), Rc.new (1 : Nat) (rowsOn y8.fst.stack), Rc.d (D.int IntKind.i64 y8.fst.pc)])))))) := by kernel_rfl
/-! the document's filling -/
def rhF (S : Int) (q : List Place) : Nat → Int → Int → List Int → List Int
  | 0, _, _, l => l
  | k + 1, u, o, l => if (rd q (k : Int)).secret = true then rhF S q k u (o / S) (l.set k (o % S)) else rhF S q k (u / S) o (l.set k (u % S))
def cntW (b : Bool) (q : List Place) (k : Nat) : Nat := (idxW b (q.take k) 0).length
theorem cntW_succ (b : Bool) (q : List Place) (k : Nat) (h : k < q.length) : cntW b q (k + 1) = cntW b q k + if q[k].secret = b then 1 else 0 := by
  unfold cntW
  rw [idxW_take b q k h, List.length_append]
  split <;> rfl
theorem cntW_mono (b : Bool) (q : List Place) {j k : Nat} (h : j ≤ k) : cntW b q j ≤ cntW b q k := by
  have e : q.take k = q.take j ++ (q.take k).drop j := by
    have := List.take_append_drop j (q.take k)
    rw [List.take_take, Nat.min_eq_left h] at this
    exact this.symm
  unfold cntW
  rw [e, idxW_app, List.length_append]
  omega
theorem cntW_rd (b : Bool) (q : List Place) (j : Nat) (h : j < q.length) (hb : q[j].secret = b) : cntW b q j < (idxW b q 0).length ∧ rd (idxW b q 0) (cntW b q j : Int) = j := by
  have e : idxW b q 0 = idxW b (q.take (j + 1)) 0 ++ idxW b (q.drop (j + 1)) (0 + ((q.take (j + 1)).length : Int)) := by
    rw [← idxW_app, List.take_append_drop]
  rw [idxW_take b q j h, if_pos hb] at e
  have hlt : cntW b q j < (idxW b q 0).length := by
    rw [e]; unfold cntW; simp only [List.length_append, List.length_cons, List.length_nil]; omega
  refine ⟨hlt, ?_⟩
  rw [rd_getD, e, List.append_assoc]
  unfold cntW
  rw [List.getD_eq_getElem?_getD, List.getElem?_append_right (Nat.le_refl _)]
  simp
theorem rhF_get (S : Int) (hS : 0 < S) (q : List Place) : ∀ (k : Nat) (u o : Int) (l : List Int), k ≤ q.length → l.length = q.length →
    (rhF S q k u o l).length = q.length ∧ (∀ j : Nat, k ≤ j → (rhF S q k u o l).getD j 0 = l.getD j 0) ∧
    (∀ (j : Nat) (h : j < q.length), j < k → (rhF S q k u o l).getD j 0 = if q[j].secret = true then o / S ^ (cntW true q k - 1 - cntW true q j) % S else u / S ^ (cntW false q k - 1 - cntW false q j) % S)
  | 0, u, o, l, _, hl => ⟨hl, fun _ _ => rfl, fun j _ h => by omega⟩
  | k + 1, u, o, l, hk, hl => by
    have hr : rd q (k : Int) = q[k] := by
      have := rd_getN q (k : Int) (by omega) (by omega)
      simpa using this
    have c1 := cntW_succ true q k (by omega)
    have c0 := cntW_succ false q k (by omega)
    unfold rhF
    rw [hr]
    by_cases hsec : q[k].secret = true
    · rw [if_pos hsec]
      rw [if_pos hsec] at c1
      rw [if_neg (by rw [hsec]; decide)] at c0
      obtain ⟨i1, i2, i3⟩ := rhF_get S hS q k u (o / S) (l.set k (o % S)) (by omega) (by simpa using hl)
      refine ⟨i1, fun j hj => ?_, fun j h hj => ?_⟩
      · rw [i2 j (by omega), getD_set_int, if_neg (by omega)]
      · by_cases e : j = k
        · subst e
          rw [i2 j (Nat.le_refl _), getD_set_int, if_pos ⟨rfl, by omega⟩, if_pos hsec, c1, show cntW true q j + 1 - 1 - cntW true q j = 0 by omega]
          simp
        · rw [i3 j h (by omega), c1, c0]
          by_cases hj2 : q[j].secret = true
          · rw [if_pos hj2, if_pos hj2]
            have m1 := cntW_succ true q j h
            rw [if_pos hj2] at m1
            have m2 := cntW_mono true q (show j + 1 ≤ k by omega)
            rw [ediv_pow o S hS, show cntW true q k - 1 - cntW true q j + 1 = cntW true q k + 1 - 1 - cntW true q j by omega]
          · rw [if_neg hj2, if_neg hj2]
            simp
    · have hsec' : q[k].secret = false := by simpa using hsec
      rw [if_neg hsec]
      rw [if_neg hsec] at c1
      rw [if_pos hsec'] at c0
      obtain ⟨i1, i2, i3⟩ := rhF_get S hS q k (u / S) o (l.set k (u % S)) (by omega) (by simpa using hl)
      refine ⟨i1, fun j hj => ?_, fun j h hj => ?_⟩
      · rw [i2 j (by omega), getD_set_int, if_neg (by omega)]
      · by_cases e : j = k
        · subst e
          rw [i2 j (Nat.le_refl _), getD_set_int, if_pos ⟨rfl, by omega⟩, if_neg hsec, c0, show cntW false q j + 1 - 1 - cntW false q j = 0 by omega]
          simp
        · rw [i3 j h (by omega), c1, c0]
          by_cases hj2 : q[j].secret = true
          · rw [if_pos hj2, if_pos hj2]
            simp
          · have hj2' : q[j].secret = false := by simpa using hj2
            rw [if_neg hj2, if_neg hj2]
            have m1 := cntW_succ false q j h
            rw [if_pos hj2'] at m1
            have m2 := cntW_mono false q (show j + 1 ≤ k by omega)
            rw [ediv_pow u S hS, show cntW false q k - 1 - cntW false q j + 1 = cntW false q k + 1 - 1 - cntW false q j by omega]
theorem rhF_row (p : Prg) (hS : 0 < sizeS p.w) (u o : Int) : rhF (sizeS p.w) (placesS p) (placesS p).length u o (List.replicate (placesS p).length 0) = rowP p u o := by
  obtain ⟨i1, _, i3⟩ := rhF_get (sizeS p.w) hS (placesS p) (placesS p).length u o (List.replicate (placesS p).length 0) (Nat.le_refl _) (by simp)
  refine List.ext_getElem (by rw [i1, rowP_len]) fun j h1 h2 => ?_
  have hj : j < (placesS p).length := by rw [i1] at h1; exact h1
  have a := i3 j hj hj
  rw [List.getD_eq_getElem?_getD, List.getElem?_eq_getElem h1] at a
  simp only [Option.getD_some] at a
  have ct : ∀ b, cntW b (placesS p) (placesS p).length = (idxW b (placesS p) 0).length := fun b => by unfold cntW; rw [List.take_length]
  rw [a]
  by_cases hs : (placesS p)[j].secret = true
  · obtain ⟨k1, k2⟩ := cntW_rd true (placesS p) j hj hs
    have b := rowP_sec p hS u o (cntW true (placesS p) j) k1
    have k2' : rd (secS p) (cntW true (placesS p) j : Int) = j := k2
    rw [k2', Int.toNat_natCast, List.getD_eq_getElem?_getD, List.getElem?_eq_getElem h2] at b
    simp only [Option.getD_some] at b
    rw [b, if_pos hs, ct]
    rfl
  · have hs' : (placesS p)[j].secret = false := by simpa using hs
    obtain ⟨k1, k2⟩ := cntW_rd false (placesS p) j hj hs'
    have b := rowP_open p hS u o (cntW false (placesS p) j) k1
    have k2' : rd (openS p) (cntW false (placesS p) j : Int) = j := k2
    rw [k2', Int.toNat_natCast, List.getD_eq_getElem?_getD, List.getElem?_eq_getElem h2] at b
    simp only [Option.getD_some] at b
    rw [b, if_neg hs, ct]
    rfl
theorem l_rhold0 (p : Prg) (hw : okW p.w) (hm : Mems p.mems) (fin : List Int) (hf : fin.length = (placesS p).length) : ∀ i_ : Int × Int × Int × List Int, (fun (i : Int × Int × Int × List Int) => -1 ≤ i.1 ∧ i.1 < (placesS p).length ∧ 0 ≤ i.2.1 ∧ i.2.1 ≤ 1000000000 ∧ 0 ≤ i.2.2.1 ∧ i.2.2.1 ≤ 1000000000 ∧ i.2.2.2.length = (placesS p).length ∧ rhF (sizeS p.w) (placesS p) (i.1 + 1).toNat i.2.1 i.2.2.1 i.2.2.2 = fin) i_ → (a_rhold.at_ 0 ((fun (i : Int × Int × Int × List Int) => F_rh p (sizeS p.w) i.2.1 i.2.2.1 (placesS p) (placesS p).length (rowsOn i.2.2.2) i.1) i_)).holds s_rhold.cx a_rhold.rs (fun r => r.le (.agg (startS p fin).1.fresh)) := by
  refine loop_rule (a := a_rhold) (j := 0) (m := 400) s_rhold_sound (fun (i : Int × Int × Int × List Int) => F_rh p (sizeS p.w) i.2.1 i.2.2.1 (placesS p) (placesS p).length (rowsOn i.2.2.2) i.1) (fun (i : Int × Int × Int × List Int) => -1 ≤ i.1 ∧ i.1 < (placesS p).length ∧ 0 ≤ i.2.1 ∧ i.2.1 ≤ 1000000000 ∧ 0 ≤ i.2.2.1 ∧ i.2.2.1 ≤ 1000000000 ∧ i.2.2.2.length = (placesS p).length ∧ rhF (sizeS p.w) (placesS p) (i.1 + 1).toNat i.2.1 i.2.2.1 i.2.2.2 = fin) (fun (i : Int × Int × Int × List Int) => (i.1 + 1).toNat) ?_
  rintro ⟨i, u, o, l⟩ h_inv ih
  try dsimp only at h_inv
  replace ih := fun (v0 : Int) (v1 : Int) (v2 : Int) (v3 : List Int) => ih (v0, v1, v2, v3)
  try dsimp only at ih
  show VC.holds _ _ _ (a_rhold.round s_rhold 400 0 (F_rh p (sizeS p.w) u o (placesS p) (placesS p).length (rowsOn l) i))
  rw [t_rhold0]
  try simp only [asRows_sl, asInt_int, asBool_bool, asStr_str, listOf_rowsOn, List.drop_zero, Prg.eta, Sta.eta, rowsOn_length, getD_drop, Nat.reduceAdd, rd_int, rd_PMem_name, rd_PMem_secret, rd_PMem_n, rd_PLabel_name, rd_PLabel_at_, rd_Ins_kind, rd_Ins_op, rd_Ins_d, rd_Ins_aR, rd_Ins_aN, rd_Ins_bR, rd_Ins_bN, rd_Ins_name, rd_Ins_target, rd_Ent_pc, rd_Ent_val, rd_Ent_addr, rd_Ent_fro, rd_Ent_next, rd_Ent_done, rd_Ent_known, rd_Ent_fault, rd_Place_reg, rd_Place_n, rd_Place_secret, rd_Obs_kind, rd_Obs_at_, rd_Dir_kind, rd_Dir_n, Prg.of_cells, Sta.of_cells]
  obtain ⟨h0, h1, u0, u1, o0, o1, hl, h2⟩ := h_inv
  have hpl := places_len p hm
  have hs := size_pos hw
  have t1 : Int.tmod u (sizeS p.w) = u % sizeS p.w := Int.tmod_eq_emod_of_nonneg u0
  have t2 : Int.tdiv u (sizeS p.w) = u / sizeS p.w := Int.tdiv_eq_ediv_of_nonneg u0
  have t3 : Int.tmod o (sizeS p.w) = o % sizeS p.w := Int.tmod_eq_emod_of_nonneg o0
  have t4 : Int.tdiv o (sizeS p.w) = o / sizeS p.w := Int.tdiv_eq_ediv_of_nonneg o0
  have d1 : 0 ≤ u / sizeS p.w := Int.ediv_nonneg u0 (by omega)
  have d2 : u / sizeS p.w ≤ u := Int.ediv_le_self _ u0
  have d3 : 0 ≤ o / sizeS p.w := Int.ediv_nonneg o0 (by omega)
  have d4 : o / sizeS p.w ≤ o := Int.ediv_le_self _ o0
  have w1 : IntKind.wrap .i64 (i - 1) = i - 1 := wrap_small _ (by omega) (by omega)
  simp only [t1, t2, t3, t4, w1, wrap_small (u / sizeS p.w) (show -9223372036854775808 ≤ u / sizeS p.w by omega) (show u / sizeS p.w ≤ 9223372036854775807 by omega), wrap_small (o / sizeS p.w) (show -9223372036854775808 ≤ o / sizeS p.w by omega) (show o / sizeS p.w ≤ 9223372036854775807 by omega)]
  refine br_dec (fun hd => ?_) (fun hd => ?_)
  · have e1 : (i + 1).toNat = i.toNat + 1 := by omega
    have ei : ((i.toNat : Nat) : Int) = i := by omega
    rw [e1] at h2
    unfold rhF at h2
    rw [ei] at h2
    have set1 : ∀ v : Int, List.set (rowsOn l) i.toNat (splice (rowAt (rowsOn l) i.toNat) 0 [D.int .i64 v]) = rowsOn (l.set i.toNat v) := fun v => (OnL.set (α := Int) (n := l.length) ⟨rfl, rfl⟩ hd (by omega) v).1
    rw [set1, set1]
    have g : (rowAt (rowsOn l) i.toNat).length = 1 := by rw [rowAt_on l i hd (by omega)]; rfl
    refine ⟨⟨hd, h1⟩, placeS_ok _ i hd h1, br_holds (fun hb => ?_) (fun hb => ?_)⟩
    · rw [if_pos hb] at h2
      exact ⟨by omega, by omega, ⟨hd, h1⟩, ⟨by omega, g, Nat.le_refl _⟩, ih _ _ _ _ ⟨by omega, by omega, u0, u1, d3, by omega, by simpa using hl, by rw [show i - 1 + 1 = i by omega]; exact h2⟩ (by omega)⟩
    · rw [if_neg (by rw [hb]; decide)] at h2
      exact ⟨by omega, by omega, ⟨hd, h1⟩, ⟨by omega, g, Nat.le_refl _⟩, ih _ _ _ _ ⟨by omega, by omega, d1, by omega, o0, o1, by simpa using hl, by rw [show i - 1 + 1 = i by omega]; exact h2⟩ (by omega)⟩
  · rw [show (i + 1).toNat = 0 by omega] at h2
    have h2 : l = fin := h2
    subst h2
    refine ⟨PreOk.mk hm rfl, all_holds fun y hy => ret_le ?_⟩
    replace hy : y = startS p l := by rw [hy]; simp [v_rStart]
    subst hy
    exact RR.le_refl _
theorem c_rhold_good : c_rhold.fe.Good Try.prog := by
  refine FT.good c_rhold ⟨Try.f98, by kernel_rfl, by decide +kernel, by kernel_rfl⟩ (fun ⟨p, u, o⟩ => by first | rfl | simp [c_rhold, rrRef, rtri, rint, rpair, rsplit, rnewI, rnewE, rstab, rplaces, ri, rb, rib, rnum, rby, rss, rrun, rstep, rins, rii, Sta.fresh]) fun ⟨p, u, o⟩ hp => ?_
  refine acalls_le s_rhold_sound (fn := Try.f98) (a := a_rhold) (nargs := 3) (tbl := [(5, [1, 2, 3, 6, 7, 8, 9, 10, 1000007000000900001003, 1000008000000900002001])]) (by kernel_rfl) (by kernel_rfl) rfl (m := 400) ?_
  show VC.holds _ _ _ (a_rhold.start s_rhold 400 [ap p, ai u, ai o])
  rw [t_rhold]
  try simp only [asRows_sl, asInt_int, asBool_bool, asStr_str, listOf_rowsOn, List.drop_zero, Prg.eta, Sta.eta, rowsOn_length, getD_drop, Nat.reduceAdd, rd_int, rd_PMem_name, rd_PMem_secret, rd_PMem_n, rd_PLabel_name, rd_PLabel_at_, rd_Ins_kind, rd_Ins_op, rd_Ins_d, rd_Ins_aR, rd_Ins_aN, rd_Ins_bR, rd_Ins_bN, rd_Ins_name, rd_Ins_target, rd_Ent_pc, rd_Ent_val, rd_Ent_addr, rd_Ent_fro, rd_Ent_next, rd_Ent_done, rd_Ent_known, rd_Ent_fault, rd_Place_reg, rd_Place_n, rd_Place_secret, rd_Obs_kind, rd_Obs_at_, rd_Dir_kind, rd_Dir_n, Prg.of_cells, Sta.of_cells]
  try simp only [c_rhold] at hp
  obtain ⟨hw, hm, u0, u1, o0, o1⟩ := hp
  have hpl := places_len p hm
  have hs := size_pos hw
  refine ⟨PreOk.mk hm rfl, all_holds fun y hy => ?_⟩
  replace hy : y = placesS p := by rw [hy]; simp [v_rPlaces]
  subst hy
  have w1 : IntKind.wrap .i64 (((placesS p).length : Int) - 1) = ((placesS p).length : Int) - 1 := wrap_small _ (by omega) (by omega)
  rw [w1, Int.toNat_natCast, rep_on]
  refine ⟨⟨trivial, by omega, by omega⟩, PreOk.mk trivial rfl, ?_⟩
  exact l_rhold0 p hw hm (rowP p u o) (rowP_len p u o) (((placesS p).length : Int) - 1, u, o, _) ⟨by dsimp only; omega, by dsimp only; omega, u0, u1, o0, o1, by simp, by rw [show (((placesS p).length : Int) - 1 + 1).toNat = (placesS p).length by omega]; exact rhF_row p (by omega) u o⟩
noncomputable def v_rhold : Prg × Int × Int → Sta := fun x => (startS x.1 (rowP x.1 x.2.1 x.2.2)).1
noncomputable def sh_rhold : Sta → RR := fun s => .agg s.fresh
theorem e_rhold (x : Prg × Int × Int) : sh_rhold (v_rhold x) = c_rhold.ans x := rfl
def c_rPAt : FT (Prg × Int) := ⟨52, fun x => [ap x.1, ai x.2], rdPIq, fun x => okW x.1.w ∧ Mems x.1.mems, fun x => rpair (atP x.1 x.2), false, fun x => by simp [ap, ai, rdPIq]⟩
noncomputable def a_rPAt : FnA := (fnA Try.prog Try.f52 2 [(10, [1, 2, 4, 5, 8, 9, 10, 11])]).getD ⟨0, .skip, [], []⟩
noncomputable def s_rPAt : Sp := spT [c_sizes.gfe v_sizes sh_sizes e_sizes, c_rhold.gfe v_rhold sh_rhold e_rhold]
theorem s_rPAt_sound : s_rPAt.sound Try.prog := spT_sound fun e he => by
  simp only [List.mem_cons, List.not_mem_nil, or_false] at he
  rcases he with rfl | rfl
  · exact FT.gfe_good c_sizes_good
  · exact FT.gfe_good c_rhold_good
def F_rp (p : Prg) (i sec per k one : Int) : St := ⟨mkS 81 [(1, vi i), (2, vp 128), (4, vp 256), (5, vp 320), (8, vi sec), (9, vi per), (10, vi k), (11, vi one)], [(128, bx p.cells), (256, zb2), (320, zb2)]⟩
set_option maxRecDepth 100000 in
theorem t_rPAt (p : Prg) (i : Int) : a_rPAt.start s_rPAt 400 [ap p, ai i] =
(VC.need (PreOk c_sizes (Prg.of (Prg.cells p), (1099511627776 : Int)) [A.agg (Prg.cells p), A.c (D.int IntKind.i64 (1099511627776 : Int))])
(VC.all ((gpS (Prg.of (Prg.cells p)) (List.length (openS (Prg.of (Prg.cells p)))), gpS (Prg.of (Prg.cells p)) (List.length (secS (Prg.of (Prg.cells p)))))) fun (y2 : Int × Int) =>
(VC.br (decide (i < (0 : Int)))
 (VC.ret (some (RR.tup [Sum.inr [Rc.d (D.int IntKind.i64 (0 : Int)), Rc.d (D.int IntKind.i64 (0 : Int)), Rc.d (D.int IntKind.i64 (0 : Int)), Rc.d (D.int IntKind.i64 (0 : Int)), Rc.nil, Rc.nil, Rc.d (D.int IntKind.i64 (0 : Int))], Sum.inr [Rc.d (D.int IntKind.i64 (0 : Int)), Rc.d (D.int IntKind.i64 (0 : Int)), Rc.d (D.int IntKind.i64 (0 : Int)), Rc.d (D.int IntKind.i64 (0 : Int)), Rc.nil, Rc.nil, Rc.d (D.int IntKind.i64 (0 : Int))], Sum.inl (Rc.d (D.bool false))])))
 (VC.br (decide ((1000000 : Int) ≤ i))
  (VC.ret (some (RR.tup [Sum.inr [Rc.d (D.int IntKind.i64 (0 : Int)), Rc.d (D.int IntKind.i64 (0 : Int)), Rc.d (D.int IntKind.i64 (0 : Int)), Rc.d (D.int IntKind.i64 (0 : Int)), Rc.nil, Rc.nil, Rc.d (D.int IntKind.i64 (0 : Int))], Sum.inr [Rc.d (D.int IntKind.i64 (0 : Int)), Rc.d (D.int IntKind.i64 (0 : Int)), Rc.d (D.int IntKind.i64 (0 : Int)), Rc.d (D.int IntKind.i64 (0 : Int)), Rc.nil, Rc.nil, Rc.d (D.int IntKind.i64 (0 : Int))], Sum.inl (Rc.d (D.bool false))])))
  (VC.br (decide (y2.snd < (2 : Int)))
   (VC.ret (some (RR.tup [Sum.inr [Rc.d (D.int IntKind.i64 (0 : Int)), Rc.d (D.int IntKind.i64 (0 : Int)), Rc.d (D.int IntKind.i64 (0 : Int)), Rc.d (D.int IntKind.i64 (0 : Int)), Rc.nil, Rc.nil, Rc.d (D.int IntKind.i64 (0 : Int))], Sum.inr [Rc.d (D.int IntKind.i64 (0 : Int)), Rc.d (D.int IntKind.i64 (0 : Int)), Rc.d (D.int IntKind.i64 (0 : Int)), Rc.d (D.int IntKind.i64 (0 : Int)), Rc.nil, Rc.nil, Rc.d (D.int IntKind.i64 (0 : Int))], Sum.inl (Rc.d (D.bool false))])))
   (VC.br (decide (y2.snd < (2097152 : Int)))
    (VC.need ((2 : Int) ≠ (0 : Int))
    (VC.need (IntKind.wrap IntKind.i64 (Int.tdiv (IntKind.wrap IntKind.i64 (y2.snd * IntKind.wrap IntKind.i64 (y2.snd - (1 : Int)))) (2 : Int)) ≠ (0 : Int))
    (VC.br (decide (y2.fst ≤ IntKind.wrap IntKind.i64 (Int.tdiv i (IntKind.wrap IntKind.i64 (Int.tdiv (IntKind.wrap IntKind.i64 (y2.snd * IntKind.wrap IntKind.i64 (y2.snd - (1 : Int)))) (2 : Int))))))
     (VC.ret (some (RR.tup [Sum.inr [Rc.d (D.int IntKind.i64 (0 : Int)), Rc.d (D.int IntKind.i64 (0 : Int)), Rc.d (D.int IntKind.i64 (0 : Int)), Rc.d (D.int IntKind.i64 (0 : Int)), Rc.nil, Rc.nil, Rc.d (D.int IntKind.i64 (0 : Int))], Sum.inr [Rc.d (D.int IntKind.i64 (0 : Int)), Rc.d (D.int IntKind.i64 (0 : Int)), Rc.d (D.int IntKind.i64 (0 : Int)), Rc.d (D.int IntKind.i64 (0 : Int)), Rc.nil, Rc.nil, Rc.d (D.int IntKind.i64 (0 : Int))], Sum.inl (Rc.d (D.bool false))])))
     (VC.need (IntKind.wrap IntKind.i64 (Int.tdiv (IntKind.wrap IntKind.i64 (y2.snd * IntKind.wrap IntKind.i64 (y2.snd - (1 : Int)))) (2 : Int)) ≠ (0 : Int))
     (FnA.at_ a_rPAt 0 (F_rp p i y2.snd (IntKind.wrap IntKind.i64 (Int.tdiv (IntKind.wrap IntKind.i64 (y2.snd * IntKind.wrap IntKind.i64 (y2.snd - (1 : Int)))) (2 : Int))) (Int.tmod i (IntKind.wrap IntKind.i64 (Int.tdiv (IntKind.wrap IntKind.i64 (y2.snd * IntKind.wrap IntKind.i64 (y2.snd - (1 : Int)))) (2 : Int)))) (0 : Int)))))))
    (VC.need (PreOk c_rhold (Prg.of (Prg.cells p), (0 : Int), (0 : Int)) [A.agg (Prg.cells p), A.c (D.int IntKind.i64 (0 : Int)), A.c (D.int IntKind.i64 (0 : Int))])
    (VC.all (v_rhold (Prg.of (Prg.cells p), (0 : Int), (0 : Int))) fun (y3 : Sta) =>
    (VC.need (PreOk c_rhold (Prg.of (Prg.cells p), (0 : Int), IntKind.wrap IntKind.i64 ((1 : Int) + i)) [A.agg (Prg.cells p), A.c (D.int IntKind.i64 (0 : Int)), A.c (D.int IntKind.i64 (IntKind.wrap IntKind.i64 ((1 : Int) + i)))])
    (VC.all (v_rhold (Prg.of (Prg.cells p), (0 : Int), IntKind.wrap IntKind.i64 ((1 : Int) + i))) fun (y4 : Sta) =>
    (VC.ret (some (RR.tup [Sum.inr [Rc.d (D.int IntKind.i64 y3.r0), Rc.d (D.int IntKind.i64 y3.r1), Rc.d (D.int IntKind.i64 y3.r2), Rc.d (D.int IntKind.i64 y3.r3), Rc.new (1 : Nat) (rowsOn y3.mem), Rc.new (1 : Nat) (rowsOn y3.stack), Rc.d (D.int IntKind.i64 y3.pc)], Sum.inr [Rc.d (D.int IntKind.i64 y4.r0), Rc.d (D.int IntKind.i64 y4.r1), Rc.d (D.int IntKind.i64 y4.r2), Rc.d (D.int IntKind.i64 y4.r3), Rc.new (1 : Nat) (rowsOn y4.mem), Rc.new (1 : Nat) (rowsOn y4.stack), Rc.d (D.int IntKind.i64 y4.pc)], Sum.inl (Rc.d (D.bool true))]))))))))))))) := by kernel_rfl
set_option maxRecDepth 100000 in
theorem t_rp0 (p : Prg) (i sec per k one : Int) : a_rPAt.round s_rPAt 400 0 (F_rp p i sec per k one) =
(VC.br (decide (IntKind.wrap IntKind.i64 (IntKind.wrap IntKind.i64 (sec - (1 : Int)) - one) ≤ k))
 (FnA.at_ a_rPAt 0 (F_rp p i sec per (IntKind.wrap IntKind.i64 (k - IntKind.wrap IntKind.i64 (IntKind.wrap IntKind.i64 (sec - (1 : Int)) - one))) (IntKind.wrap IntKind.i64 (one + (1 : Int)))))
 (VC.need (per ≠ (0 : Int))
 (VC.need (PreOk c_rhold (Prg.of (Prg.cells p), IntKind.wrap IntKind.i64 (Int.tdiv i per), one) [A.agg (Prg.cells p), A.c (D.int IntKind.i64 (IntKind.wrap IntKind.i64 (Int.tdiv i per))), A.c (D.int IntKind.i64 one)])
 (VC.all (v_rhold (Prg.of (Prg.cells p), IntKind.wrap IntKind.i64 (Int.tdiv i per), one)) fun (y6 : Sta) =>
 (VC.need (per ≠ (0 : Int))
 (VC.need (PreOk c_rhold (Prg.of (Prg.cells p), IntKind.wrap IntKind.i64 (Int.tdiv i per), IntKind.wrap IntKind.i64 (IntKind.wrap IntKind.i64 (one + (1 : Int)) + k)) [A.agg (Prg.cells p), A.c (D.int IntKind.i64 (IntKind.wrap IntKind.i64 (Int.tdiv i per))), A.c (D.int IntKind.i64 (IntKind.wrap IntKind.i64 (IntKind.wrap IntKind.i64 (one + (1 : Int)) + k)))])
 (VC.all (v_rhold (Prg.of (Prg.cells p), IntKind.wrap IntKind.i64 (Int.tdiv i per), IntKind.wrap IntKind.i64 (IntKind.wrap IntKind.i64 (one + (1 : Int)) + k))) fun (y7 : Sta) =>
 (VC.ret (some (RR.tup [Sum.inr [Rc.d (D.int IntKind.i64 y6.r0), Rc.d (D.int IntKind.i64 y6.r1), Rc.d (D.int IntKind.i64 y6.r2), Rc.d (D.int IntKind.i64 y6.r3), Rc.new (1 : Nat) (rowsOn y6.mem), Rc.new (1 : Nat) (rowsOn y6.stack), Rc.d (D.int IntKind.i64 y6.pc)], Sum.inr [Rc.d (D.int IntKind.i64 y7.r0), Rc.d (D.int IntKind.i64 y7.r1), Rc.d (D.int IntKind.i64 y7.r2), Rc.d (D.int IntKind.i64 y7.r3), Rc.new (1 : Nat) (rowsOn y7.mem), Rc.new (1 : Nat) (rowsOn y7.stack), Rc.d (D.int IntKind.i64 y7.pc)], Sum.inl (Rc.d (D.bool true))])))))))))) := by kernel_rfl
theorem l_rp00 (p : Prg) (hw : okW p.w) (hm : Mems p.mems) (i all each : Int) (h0 : 0 ≤ i) (h1 : i < 1000000) (he : 0 < each) (ha : 0 < all) (ha1 : all ≤ 2097152) : ∀ (m : Nat) (one rest : Int), 0 ≤ rest → rest ≤ 1000000 → 0 ≤ one → one < all → one + rest ≤ 1000000 → 2 * rest < (all - one) * (all - one - 1) → rest ≤ m →
    (FnA.at_ a_rPAt 0 (F_rp p i all each rest one)).holds s_rPAt.cx a_rPAt.rs fun r => r.le (rpair ((startS p (rowP p (i / each) (oneF all m one rest).1)).1, (startS p (rowP p (i / each) ((oneF all m one rest).1 + 1 + (oneF all m one rest).2))).1, true)) := by
  intro m
  have hd0 : 0 ≤ i / each := Int.ediv_nonneg h0 (by omega)
  have hd1 : i / each ≤ i := Int.ediv_le_self _ h0
  have t1 : Int.tdiv i each = i / each := Int.tdiv_eq_ediv_of_nonneg h0
  have w0 : IntKind.wrap .i64 (i / each) = i / each := wrap_small _ (by omega) (by omega)
  have fin : ∀ one rest : Int, 0 ≤ rest → rest ≤ 1000000 → 0 ≤ one → one ≤ 1000000 → rest < all - 1 - one → one < all →
      (FnA.at_ a_rPAt 0 (F_rp p i all each rest one)).holds s_rPAt.cx a_rPAt.rs fun r => r.le (rpair ((startS p (rowP p (i / each) one)).1, (startS p (rowP p (i / each) (one + 1 + rest))).1, true)) := by
    intro one rest r0 r1 o0 o1 hlt ho
    refine at_of_round s_rPAt_sound (m := 400) ?_
    rw [t_rp0]
    have w1 : IntKind.wrap .i64 (all - 1) = all - 1 := wrap_small _ (by omega) (by omega)
    have w2 : IntKind.wrap .i64 (all - 1 - one) = all - 1 - one := wrap_small _ (by omega) (by omega)
    have w3 : IntKind.wrap .i64 (one + 1) = one + 1 := wrap_small _ (by omega) (by omega)
    have w4 : IntKind.wrap .i64 (one + 1 + rest) = one + 1 + rest := wrap_small _ (by omega) (by omega)
    simp only [w1, w2, w3, w4, t1, w0, Prg.of_cells]
    refine br_dec (fun h => by omega) (fun h => ⟨by omega, PreOk.mk ⟨hw, hm, by dsimp only; omega, by dsimp only; omega, by dsimp only; omega, by dsimp only; omega⟩ rfl, all_holds fun y hy => ⟨by omega, PreOk.mk ⟨hw, hm, by dsimp only; omega, by dsimp only; omega, by dsimp only; omega, by dsimp only; omega⟩ rfl, all_holds fun z hz => ret_le ?_⟩⟩)
    replace hy : y = (startS p (rowP p (i / each) one)).1 := hy
    replace hz : z = (startS p (rowP p (i / each) (one + 1 + rest))).1 := hz
    rw [← hy, ← hz]
    exact RR.le_refl _
  induction m with
  | zero =>
    intro one rest r0 r1 o0 o1 hs h2 hm0
    have hx : all - one - 1 ≠ 0 := fun e => by rw [e, Int.mul_zero] at h2; omega
    exact fin one rest r0 r1 o0 (by omega) (by omega) o1
  | succ m ih =>
    intro one rest r0 r1 o0 o1 hs h2 hm0
    have hx : all - one - 1 ≠ 0 := fun e => by rw [e, Int.mul_zero] at h2; omega
    unfold oneF
    by_cases h : all - 1 - one ≤ rest
    · rw [if_pos h]
      refine at_of_round s_rPAt_sound (m := 400) ?_
      rw [t_rp0]
      have ht := tri (all - one)
      have e1 : all - (one + 1) = all - one - 1 := by omega
      have w1 : IntKind.wrap .i64 (all - 1) = all - 1 := wrap_small _ (by omega) (by omega)
      have w2 : IntKind.wrap .i64 (all - 1 - one) = all - 1 - one := wrap_small _ (by omega) (by omega)
      have w3 : IntKind.wrap .i64 (one + 1) = one + 1 := wrap_small _ (by omega) (by omega)
      have w4 : IntKind.wrap .i64 (rest - (all - 1 - one)) = rest - (all - 1 - one) := wrap_small _ (by omega) (by omega)
      rw [w1, w2, w3, w4]
      refine br_dec (fun _ => ?_) (fun q => absurd h q)
      exact ih (one + 1) (rest - (all - 1 - one)) (by omega) (by omega) (by omega) (by omega) (by omega) (by rw [e1]; omega) (by omega)
    · rw [if_neg h]
      exact fin one rest r0 r1 o0 (by omega) (by omega) o1
theorem at_ref {p : Prg} (hw : okW p.w) (i : Int) (h0 : 0 ≤ i) (h1 : i < 1000000) :
    (gpS p (secS p).length < 2 → twoS (powS p (secS p).length) = 0) ∧
    (2 ≤ gpS p (secS p).length → gpS p (secS p).length < 2097152 → powS p (secS p).length = gpS p (secS p).length ∧ 1 ≤ gpS p (secS p).length * (gpS p (secS p).length - 1) / 2 ∧ twoS (gpS p (secS p).length) ≠ 0 ∧
      i / twoS (gpS p (secS p).length) = i / (gpS p (secS p).length * (gpS p (secS p).length - 1) / 2) ∧ i % twoS (gpS p (secS p).length) = i % (gpS p (secS p).length * (gpS p (secS p).length - 1) / 2)) ∧
    (2097152 ≤ gpS p (secS p).length → 2097152 ≤ powS p (secS p).length ∧ twoS (powS p (secS p).length) = farS) ∧
    (∀ d : Int, 0 ≤ d → d < 1000000 → (gpS p (openS p).length ≤ d ↔ powS p (openS p).length ≤ d)) := by
  have hs := size_pos hw
  have hX : 0 < sizeS p.w ^ (secS p).length := Int.pow_pos (by omega)
  have hY : 0 < sizeS p.w ^ (openS p).length := Int.pow_pos (by omega)
  unfold powS gpS
  generalize sizeS p.w ^ (secS p).length = X at *
  generalize sizeS p.w ^ (openS p).length = Y at *
  refine ⟨fun h => ?_, fun g1 g2 => ?_, fun h => ?_, fun d d0 d1 => by unfold greatS farS; omega⟩
  · have : X = 1 := by unfold greatS at h; omega
    subst this
    decide
  · have eX : min X (greatS + 1) = X := by unfold greatS at g1 g2 ⊢; omega
    have eA : min X farS = X := by unfold greatS at g1 g2; unfold farS; omega
    rw [eX] at g1 g2 ⊢
    have ht : 1 ≤ X * (X - 1) / 2 := by
      have := tri_mono (show (1 : Int) ≤ 2 by decide) g1
      omega
    unfold twoS
    generalize X * (X - 1) / 2 = T at *
    refine ⟨eA, ht, by unfold farS; omega, ?_, ?_⟩
    · by_cases hT : T ≤ farS
      · rw [show min T farS = T by omega]
      · rw [show min T farS = farS by omega, Int.ediv_eq_zero_of_lt h0 (by unfold farS; omega), Int.ediv_eq_zero_of_lt h0 (by unfold farS at hT; omega)]
    · by_cases hT : T ≤ farS
      · rw [show min T farS = T by omega]
      · rw [show min T farS = farS by omega, Int.emod_eq_of_lt h0 (by unfold farS; omega), Int.emod_eq_of_lt h0 (by unfold farS at hT; omega)]
  · have hA : 2097152 ≤ min X farS := by unfold greatS at h; unfold farS; omega
    have ht := tri_mono (show (1 : Int) ≤ 2097152 by decide) hA
    refine ⟨hA, ?_⟩
    unfold twoS farS at *
    omega
theorem oneF_stay (all : Int) (m : Nat) (one rest : Int) (h : rest < all - 1 - one) : oneF all m one rest = (one, rest) := by
  cases m with
  | zero => rfl
  | succ m => unfold oneF; rw [if_neg (by omega)]
theorem c_rPAt_good : c_rPAt.fe.Good Try.prog := by
  refine FT.good c_rPAt ⟨Try.f52, by kernel_rfl, by decide +kernel, by kernel_rfl⟩ (fun ⟨p, i⟩ => by first | rfl | simp [c_rPAt, rrRef, rtri, rint, rpair, rsplit, rnewI, rnewE, rstab, rplaces, ri, rb, rib, rnum, rby, rss, rrun, rstep, rins, rii, Sta.fresh]) fun ⟨p, i⟩ hp => ?_
  refine acalls_le s_rPAt_sound (fn := Try.f52) (a := a_rPAt) (nargs := 2) (tbl := [(10, [1, 2, 4, 5, 8, 9, 10, 11])]) (by kernel_rfl) (by kernel_rfl) rfl (m := 400) ?_
  show VC.holds _ _ _ (a_rPAt.start s_rPAt 400 [ap p, ai i])
  rw [t_rPAt]
  try simp only [asRows_sl, asInt_int, asBool_bool, asStr_str, listOf_rowsOn, List.drop_zero, Prg.eta, Sta.eta, rowsOn_length, getD_drop, Nat.reduceAdd, rd_int, rd_PMem_name, rd_PMem_secret, rd_PMem_n, rd_PLabel_name, rd_PLabel_at_, rd_Ins_kind, rd_Ins_op, rd_Ins_d, rd_Ins_aR, rd_Ins_aN, rd_Ins_bR, rd_Ins_bN, rd_Ins_name, rd_Ins_target, rd_Ent_pc, rd_Ent_val, rd_Ent_addr, rd_Ent_fro, rd_Ent_next, rd_Ent_done, rd_Ent_known, rd_Ent_fault, rd_Place_reg, rd_Place_n, rd_Place_secret, rd_Obs_kind, rd_Obs_at_, rd_Dir_kind, rd_Dir_n, Prg.of_cells, Sta.of_cells]
  try simp only [c_rPAt] at hp
  obtain ⟨hw, hm⟩ := hp
  have e : c_rPAt.ans (p, i) = rpair (atP p i) := rfl
  rw [e]
  have b0 := gpS_pos hw (openS p).length
  have b1 := gpS_pos hw (secS p).length
  obtain ⟨pp1, pp2, pp3⟩ := powS_pos hw (openS p).length
  refine ⟨PreOk.mk ⟨hw, hm, rfl⟩ rfl, all_holds fun y hy => ?_⟩
  replace hy : y = (gpS p (openS p).length, gpS p (secS p).length) := by rw [hy]
  subst hy
  unfold atP
  refine br_dec (fun h => ?_) (fun h0 => ?_)
  · rw [if_pos (.inl h)]; exact ret_le zero_le2
  refine br_dec (fun h => ?_) (fun h1 => ?_)
  · rw [if_pos (.inr (.inl h))]; exact ret_le zero_le2
  obtain ⟨k1, k2, k3, k4⟩ := at_ref hw i (by omega) (by omega)
  refine br_dec (fun h => ?_) (fun h2 => ?_)
  · rw [if_pos (.inr (.inr (.inl (k1 h))))]; exact ret_le zero_le2
  refine br_dec (fun h3 => ?_) (fun h3 => ?_)
  · obtain ⟨j1, j2, j3, j4, j5⟩ := k2 (by omega) h3
    rw [j1]
    dsimp only at h2 h3 ⊢
    generalize gpS p (secS p).length = X at *
    have hx := tri_mono (show 1 ≤ X by omega) (show X ≤ 2097152 by omega)
    have hx0 := tri_pos (show 1 ≤ X by omega)
    have t2 := tri_even X
    rw [wrap_small (X - 1) (by omega) (by omega), wrap_small (X * (X - 1)) (by omega) (by omega), Int.tdiv_eq_ediv_of_nonneg hx0, wrap_small (X * (X - 1) / 2) (by omega) (by omega), j4, j5]
    generalize X * (X - 1) / 2 = T at *
    have d0 : 0 ≤ i / T := Int.ediv_nonneg (by omega) (by omega)
    have d1 : i / T ≤ i := Int.ediv_le_self _ (by omega)
    have m0 := Int.emod_nonneg i (show T ≠ 0 by omega)
    have m1 := Int.emod_lt_of_pos i (show 0 < T by omega)
    have m2 : i % T ≤ i := by have := Int.mul_ediv_add_emod i T; have : 0 ≤ T * (i / T) := Int.mul_nonneg (by omega) d0; omega
    rw [Int.tdiv_eq_ediv_of_nonneg (show 0 ≤ i by omega), wrap_small (i / T) (by omega) (by omega), Int.tmod_eq_emod_of_nonneg (show 0 ≤ i by omega)]
    have k4 := k4 (i / T) d0 (by omega)
    refine ⟨by decide, by omega, br_dec (fun h => ?_) (fun h4 => ⟨by omega, ?_⟩)⟩
    · rw [if_pos (.inr (.inr (.inr (k4.1 h))))]; exact ret_le zero_le2
    · rw [if_neg (by rintro (q | q | q | q) <;> first | omega | exact j3 q | exact h4 (k4.2 q))]
      exact l_rp00 p hw hm i X T (by omega) (by omega) (by omega) (by omega) (by omega) _ 0 (i % T) m0 (by omega) (by omega) (by omega) (by omega) (by rw [Int.sub_zero]; omega) (by omega)
  · obtain ⟨j1, j2⟩ := k3 (by omega)
    rw [j2, Int.ediv_eq_zero_of_lt (show 0 ≤ i by omega) (by unfold farS; omega), Int.emod_eq_of_lt (show 0 ≤ i by omega) (by unfold farS; omega)]
    rw [if_neg (by unfold farS; omega)]
    unfold oneS
    rw [oneF_stay _ _ _ _ (by omega)]
    rw [wrap_small (1 + i) (by omega) (by omega)]
    refine ⟨PreOk.mk ⟨hw, hm, by dsimp only; omega, by dsimp only; omega, by dsimp only; omega, by dsimp only; omega⟩ rfl, all_holds fun y hy => ⟨PreOk.mk ⟨hw, hm, by dsimp only; omega, by dsimp only; omega, by dsimp only; omega, by dsimp only; omega⟩ rfl, all_holds fun z hz => ret_le ?_⟩⟩
    replace hy : y = (startS p (rowP p 0 0)).1 := hy
    replace hz : z = (startS p (rowP p 0 (1 + i))).1 := hz
    have e1 : ((0 : Int) + 1 + i) = 1 + i := by omega
    dsimp only
    rw [e1, ← hy, ← hz]
    exact RR.le_refl _
noncomputable def v_rPAt : Prg × Int → Sta × Sta × Bool := fun x => atP x.1 x.2
noncomputable def sh_rPAt : Sta × Sta × Bool → RR := fun y => rpair y
theorem e_rPAt (x : Prg × Int) : sh_rPAt (v_rPAt x) = c_rPAt.ans x := rfl
end Go.Proofs.Ytclabjihjopclaa.Ax
end

section
/- Layer 23, by the document: Differ, Sequential. -/
namespace Go.Proofs.Ytclabjihjopclaa.Ax
open Go.RowKit
set_option linter.unusedVariables false
set_option linter.unusedSimpArgs false
def c_rDiff : FT (Prg × Sta × Sta) := ⟨69, fun x => [ap x.1, as_ x.2.1, as_ x.2.2], rdPSS, fun x => PrgOk x.1 ∧ StaOk x.1 x.2.1 ∧ StaOk x.1 x.2.2 ∧ x.1.fuel ≤ 1000000, fun x => rb (differS x.1 x.2.1 x.2.2), false, fun s => by simp [as_, ap, rdPSS]⟩
noncomputable def a_rDiff : FnA := (fnA Try.prog Try.f69 3 []).getD ⟨0, .skip, [], []⟩
noncomputable def s_rDiff : Sp := spT [c_rRun.gfe v_rRun sh_rRun e_rRun, c_rSameO.gfe v_rSameO sh_rSameO e_rSameO]
theorem s_rDiff_sound : s_rDiff.sound Try.prog := spT_sound fun e he => by
  simp only [List.mem_cons, List.not_mem_nil, or_false] at he
  rcases he with rfl | rfl
  · exact FT.gfe_good c_rRun_good
  · exact FT.gfe_good c_rSameO_good
set_option maxRecDepth 100000 in
theorem t_rDiff (p : Prg) (s t : Sta) : a_rDiff.start s_rDiff 400 [ap p, as_ s, as_ t] =
(VC.need (PreOk c_rRun (Prg.of (Prg.cells p), Sta.of (Sta.cells s), p.fuel) [A.agg (Prg.cells p), A.agg (Sta.cells s), A.c (D.int IntKind.i64 p.fuel)])
(VC.all (v_rRun (Prg.of (Prg.cells p), Sta.of (Sta.cells s), p.fuel)) fun (y3 : Sta × List Obs × Int × Int) =>
(VC.need (PreOk c_rRun (Prg.of (Prg.cells p), Sta.of (Sta.cells t), p.fuel) [A.agg (Prg.cells p), A.agg (Sta.cells t), A.c (D.int IntKind.i64 p.fuel)])
(VC.all (v_rRun (Prg.of (Prg.cells p), Sta.of (Sta.cells t), p.fuel)) fun (y4 : Sta × List Obs × Int × Int) =>
(VC.need (PreOk c_rSameO (y3.snd.fst, y4.snd.fst) [A.c (D.sl (rowsOn y3.snd.fst)), A.c (D.sl (rowsOn y4.snd.fst))])
(VC.all (v_rSameO (listOf Obs (rowsOn y3.snd.fst), listOf Obs (rowsOn y4.snd.fst))) fun (y5 : Bool) =>
(VC.br (!y5)
 (VC.ret (some (RR.c (Rc.d (D.bool true)))))
 (VC.br (y3.snd.snd.fst != y4.snd.snd.fst)
  (VC.ret (some (RR.c (Rc.d (D.bool true)))))
  (VC.ret (some (RR.c (Rc.d (D.bool (y3.snd.snd.snd != y4.snd.snd.snd)))))))))))))) := by kernel_rfl
theorem c_rDiff_good : c_rDiff.fe.Good Try.prog := by
  refine FT.good c_rDiff ⟨Try.f69, by kernel_rfl, by decide +kernel, by kernel_rfl⟩ (fun ⟨p, s, t⟩ => by first | rfl | simp [c_rDiff, rrRef, rii, rtri, rint, rpair, rsplit, rnewI, rnewE, rstab, rplaces, ri, rb, rib, rnum, rby, rss, rrun, rstep, rins, Sta.fresh]) fun ⟨p, s, t⟩ hp => ?_
  refine acalls_le s_rDiff_sound (fn := Try.f69) (a := a_rDiff) (nargs := 3) (tbl := []) (by kernel_rfl) (by kernel_rfl) rfl (m := 400) ?_
  show VC.holds _ _ _ (a_rDiff.start s_rDiff 400 [ap p, as_ s, as_ t])
  rw [t_rDiff]
  try simp only [asRows_sl, asInt_int, asBool_bool, asStr_str, listOf_rowsOn, List.drop_zero, Prg.eta, Sta.eta, rowsOn_length, getD_drop, Nat.reduceAdd, rd_int, rd_PMem_name, rd_PMem_secret, rd_PMem_n, rd_PLabel_name, rd_PLabel_at_, rd_Ins_kind, rd_Ins_op, rd_Ins_d, rd_Ins_aR, rd_Ins_aN, rd_Ins_bR, rd_Ins_bN, rd_Ins_name, rd_Ins_target, rd_Ent_pc, rd_Ent_val, rd_Ent_addr, rd_Ent_fro, rd_Ent_next, rd_Ent_done, rd_Ent_known, rd_Ent_fault, rd_Place_reg, rd_Place_n, rd_Place_secret, rd_Obs_kind, rd_Obs_at_, rd_Dir_kind, rd_Dir_n, Prg.of_cells, Sta.of_cells]
  try simp only [c_rDiff] at hp
  obtain ⟨hp0, hs, ht, hf⟩ := hp
  refine ⟨PreOk.mk ⟨hp0, hs, hf⟩ rfl, all_holds fun x hx => ⟨PreOk.mk ⟨hp0, ht, hf⟩ rfl, all_holds fun y hy => ?_⟩⟩
  replace hx : x = runS p p.fuel.toNat s := hx
  replace hy : y = runS p p.fuel.toNat t := hy
  have e : c_rDiff.ans (p, s, t) = rb (!decide ((x.2.1, x.2.2.1, x.2.2.2) = (y.2.1, y.2.2.1, y.2.2.2))) := by rw [hx, hy]; rfl
  have hol := (run_len p p.fuel.toNat s).2.2.1
  rw [← hx] at hol
  rw [e]
  clear e hx hy
  repeat' first
    | refine br_not ?_
    | refine br_dec (fun _ => ?_) (fun _ => ?_)
    | refine br_beq (fun _ => ?_) (fun _ => ?_)
    | refine br_bne (fun _ => ?_) (fun _ => ?_)
    | refine br_holds (fun _ => ?_) (fun _ => ?_)
    | refine ⟨PreOk.mk ?_ rfl, ?_⟩
    | refine ⟨idx_ok _ _ _ rfl (by omega) (by omega), ?_⟩
    | refine ⟨okSh_ok _ _ _ (fun _ => rfl) (by omega) (by omega), ?_⟩
    | refine ⟨okSh_okD _ _ _ _ (fun _ => rfl) (by omega) (by omega), ?_⟩
    | refine ⟨aload_ok _ _ rfl (fun _ => rfl) (by omega) (by omega), ?_⟩
    | refine ⟨aload_okD _ _ _ rfl (fun _ => rfl) (by omega) (by omega), ?_⟩
    | refine ⟨astore_ok (by assumption) rfl (by omega) (by omega) (by decide), ?_⟩
    | refine ⟨app_ok (by assumption) rfl rfl (by simp only [List.length_cons, List.length_nil]; omega), ?_⟩
    | refine need_holds ?_ fun _ => ?_
    | refine all_holds fun y hy => ?_
    | refine ret_le ?_
  all_goals try (dsimp only [c_rSameO]; omega)
  all_goals refine rb_le ?_
  all_goals subst_vars
  all_goals simp_all [v_rSameO]
  all_goals rfl
noncomputable def v_rDiff : Prg × Sta × Sta → Bool := fun x => differS x.1 x.2.1 x.2.2
noncomputable def sh_rDiff : Bool → RR := fun b => rb b
theorem e_rDiff (x : Prg × Sta × Sta) : sh_rDiff (v_rDiff x) = c_rDiff.ans x := rfl
theorem atP_stok {p : Prg} (hp : PrgOk p) {i : Int} (h : 0 ≤ i ∧ i < 1000000 ∧ i < cntS p) : (atP p i).2.2 = true ∧ StaOk p (atP p i).1 ∧ StaOk p (atP p i).2.1 := by
  obtain ⟨u, o, q, e, _⟩ := (atP_spec hp.w i).1 h
  rw [e]
  exact ⟨rfl, start_ok hp.w hp.mems _ (rowP_len p u o), start_ok hp.w hp.mems _ (rowP_len p u q)⟩
def c_rSequ : FT (Prg × Int) := ⟨70, fun x => [ap x.1, ai x.2], rdPIq, fun x => PrgOk x.1 ∧ x.1.fuel ≤ 1000000, fun x => rtri (sequS x.1 x.2), false, fun x => by simp [ap, ai, rdPIq]⟩
noncomputable def a_rSequ : FnA := (fnA Try.prog Try.f70 2 [(5, [2, 7, 9])]).getD ⟨0, .skip, [], []⟩
noncomputable def s_rSequ : Sp := spT [c_rCount.gfe v_rCount sh_rCount e_rCount, c_rPAt.gfe v_rPAt sh_rPAt e_rPAt, c_rDiff.gfe v_rDiff sh_rDiff e_rDiff]
theorem s_rSequ_sound : s_rSequ.sound Try.prog := spT_sound fun e he => by
  simp only [List.mem_cons, List.not_mem_nil, or_false] at he
  rcases he with rfl | rfl | rfl
  · exact FT.gfe_good c_rCount_good
  · exact FT.gfe_good c_rPAt_good
  · exact FT.gfe_good c_rDiff_good
def F_rsq (p : Prg) (n i : Int) : St := ⟨mkS 38 [(2, vp 128), (7, vi n), (9, vi i)], [(128, bx p.cells)]⟩
set_option maxRecDepth 100000 in
theorem t_rSequ (p : Prg) (most : Int) : a_rSequ.start s_rSequ 400 [ap p, ai most] =
(VC.need (PreOk c_rCount (Prg.of (Prg.cells p), most) [A.agg (Prg.cells p), A.c (D.int IntKind.i64 most)])
(VC.all (v_rCount (Prg.of (Prg.cells p), most)) fun (y2 : Int × Bool) =>
(VC.br (!y2.snd)
 (VC.ret (some (RR.tup [Sum.inl (Rc.d (D.int IntKind.i64 (0 : Int))), Sum.inl (Rc.d (D.bool false)), Sum.inl (Rc.d (D.bool false))])))
 (FnA.at_ a_rSequ 0 (F_rsq p y2.fst (0 : Int)))))) := by kernel_rfl
set_option maxRecDepth 100000 in
theorem t_rsq0 (p : Prg) (n i : Int) : a_rSequ.round s_rSequ 400 0 (F_rsq p n i) =
(VC.br (decide (i < n))
 (VC.need (PreOk c_rPAt (Prg.of (Prg.cells p), i) [A.agg (Prg.cells p), A.c (D.int IntKind.i64 i)])
 (VC.all (v_rPAt (Prg.of (Prg.cells p), i)) fun (y3 : Sta × Sta × Bool) =>
 (VC.need (PreOk c_rDiff (Prg.of (Prg.cells p), Sta.of (Sta.cells y3.fst), Sta.of (Sta.cells y3.snd.fst)) [A.agg (Prg.cells p), A.agg (Sta.cells y3.fst), A.agg (Sta.cells y3.snd.fst)])
 (VC.all (v_rDiff (Prg.of (Prg.cells p), Sta.of (Sta.cells y3.fst), Sta.of (Sta.cells y3.snd.fst))) fun (y4 : Bool) =>
 (VC.br (y4)
  (VC.ret (some (RR.tup [Sum.inl (Rc.d (D.int IntKind.i64 i)), Sum.inl (Rc.d (D.bool true)), Sum.inl (Rc.d (D.bool true))])))
  (FnA.at_ a_rSequ 0 (F_rsq p n (IntKind.wrap IntKind.i64 (i + (1 : Int))))))))))
 (VC.ret (some (RR.tup [Sum.inl (Rc.d (D.int IntKind.i64 (0 : Int))), Sum.inl (Rc.d (D.bool false)), Sum.inl (Rc.d (D.bool true))])))) := by kernel_rfl
theorem l_rsq0 (p : Prg) (n : Int) (hp : PrgOk p) (hf : p.fuel ≤ 1000000) (hn : n = cntS p) (hn1 : n ≤ 1000000) (hn0 : 0 ≤ n) : ∀ i_ : Int, (fun (i : Int) => 0 ≤ i ∧ i ≤ n ∧ seqK p (n - i).toNat i = seqK p n.toNat 0) i_ → (a_rSequ.at_ 0 ((fun (i : Int) => F_rsq p n i) i_)).holds s_rSequ.cx a_rSequ.rs (fun r => r.le (rtri ((seqK p n.toNat 0).1, (seqK p n.toNat 0).2, true))) := by
  refine loop_rule (a := a_rSequ) (j := 0) (m := 400) s_rSequ_sound (fun (i : Int) => F_rsq p n i) (fun (i : Int) => 0 ≤ i ∧ i ≤ n ∧ seqK p (n - i).toNat i = seqK p n.toNat 0) (fun (i : Int) => (n - i).toNat) ?_
  rintro i h_inv ih
  try dsimp only at h_inv
  show VC.holds _ _ _ (a_rSequ.round s_rSequ 400 0 (F_rsq p n i))
  rw [t_rsq0]
  try simp only [asRows_sl, asInt_int, asBool_bool, asStr_str, listOf_rowsOn, List.drop_zero, Prg.eta, Sta.eta, rowsOn_length, getD_drop, Nat.reduceAdd, rd_int, rd_PMem_name, rd_PMem_secret, rd_PMem_n, rd_PLabel_name, rd_PLabel_at_, rd_Ins_kind, rd_Ins_op, rd_Ins_d, rd_Ins_aR, rd_Ins_aN, rd_Ins_bR, rd_Ins_bN, rd_Ins_name, rd_Ins_target, rd_Ent_pc, rd_Ent_val, rd_Ent_addr, rd_Ent_fro, rd_Ent_next, rd_Ent_done, rd_Ent_known, rd_Ent_fault, rd_Place_reg, rd_Place_n, rd_Place_secret, rd_Obs_kind, rd_Obs_at_, rd_Dir_kind, rd_Dir_n, Prg.of_cells, Sta.of_cells]
  obtain ⟨h0, h1, h2⟩ := h_inv
  have w1 : IntKind.wrap .i64 (i + 1) = i + 1 := wrap_small _ (by omega) (by omega)
  simp only [w1]
  refine br_dec (fun hd => ?_) (fun hd => ?_)
  · obtain ⟨k, hk⟩ : ∃ k, (n - i).toNat = k + 1 := ⟨(n - i).toNat - 1, by omega⟩
    have hk2 : (n - (i + 1)).toNat = k := by omega
    rw [hk] at h2
    obtain ⟨ht, s1, s2⟩ := atP_stok hp (i := i) ⟨h0, by omega, by omega⟩
    rw [seqK_succ] at h2
    refine ⟨PreOk.mk ⟨hp.w, hp.mems⟩ rfl, all_holds fun y hy => ?_⟩
    replace hy : y = atP p i := by rw [hy]; simp [v_rPAt]
    rw [← hy] at h2 s1 s2 ht
    refine ⟨PreOk.mk ⟨hp, s1, s2, hf⟩ rfl, all_holds fun z hz => ?_⟩
    replace hz : z = differS p y.1 y.2.1 := by rw [hz]; simp [v_rDiff]
    rw [ht, ← hz, Bool.true_and] at h2
    refine br_holds (fun hz2 => ?_) (fun hz2 => ?_)
    · rw [if_pos hz2] at h2
      refine ret_le ?_
      rw [← h2]; exact RR.le_refl _
    · rw [if_neg (by simp [hz2])] at h2
      exact ih _ ⟨by omega, by omega, by rw [hk2]; exact h2⟩ (by omega)
  · have e : (n - i).toNat = 0 := by omega
    rw [e] at h2
    refine ret_le ?_
    rw [← h2]; exact RR.le_refl _
theorem c_rSequ_good : c_rSequ.fe.Good Try.prog := by
  refine FT.good c_rSequ ⟨Try.f70, by kernel_rfl, by decide +kernel, by kernel_rfl⟩ (fun ⟨p, most⟩ => by first | rfl | simp [c_rSequ, rrRef, rii, rtri, rint, rpair, rsplit, rnewI, rnewE, rstab, rplaces, ri, rb, rib, rnum, rby, rss, rrun, rstep, rins, Sta.fresh]) fun ⟨p, most⟩ hp => ?_
  refine acalls_le s_rSequ_sound (fn := Try.f70) (a := a_rSequ) (nargs := 2) (tbl := [(5, [2, 7, 9])]) (by kernel_rfl) (by kernel_rfl) rfl (m := 400) ?_
  show VC.holds _ _ _ (a_rSequ.start s_rSequ 400 [ap p, ai most])
  rw [t_rSequ]
  try simp only [asRows_sl, asInt_int, asBool_bool, asStr_str, listOf_rowsOn, List.drop_zero, Prg.eta, Sta.eta, rowsOn_length, getD_drop, Nat.reduceAdd, rd_int, rd_PMem_name, rd_PMem_secret, rd_PMem_n, rd_PLabel_name, rd_PLabel_at_, rd_Ins_kind, rd_Ins_op, rd_Ins_d, rd_Ins_aR, rd_Ins_aN, rd_Ins_bR, rd_Ins_bN, rd_Ins_name, rd_Ins_target, rd_Ent_pc, rd_Ent_val, rd_Ent_addr, rd_Ent_fro, rd_Ent_next, rd_Ent_done, rd_Ent_known, rd_Ent_fault, rd_Place_reg, rd_Place_n, rd_Place_secret, rd_Obs_kind, rd_Obs_at_, rd_Dir_kind, rd_Dir_n, Prg.of_cells, Sta.of_cells]
  try simp only [c_rSequ] at hp
  obtain ⟨hp0, hf⟩ := hp
  have e : c_rSequ.ans (p, most) = rtri (sequS p most) := rfl
  rw [e]
  have hb := countS_le hp0.w most
  unfold sequS
  refine ⟨PreOk.mk ⟨hp0.w, hp0.mems⟩ rfl, all_holds fun y hy => ?_⟩
  replace hy : y = countS p most := by rw [hy]; simp [v_rCount]
  have hc : y.2 = true → y.1 = cntS p := fun h => by
    unfold countS at hy
    split at hy
    · rw [hy] at h; cases h
    · rw [hy]
  rw [← hy] at hb ⊢
  refine br_not (br_holds (fun h => ?_) (fun h => ?_))
  · rw [if_pos h]
    exact l_rsq0 p y.1 hp0 hf (hc h) hb.2 hb.1 0 ⟨by omega, hb.1, by rw [Int.sub_zero]⟩
  · rw [if_neg (by simp [h])]
    exact ret_le (RR.le_refl _)
noncomputable def v_rSequ : Prg × Int → Int × Bool × Bool := fun x => sequS x.1 x.2
noncomputable def sh_rSequ : Int × Bool × Bool → RR := fun y => rtri y
theorem e_rSequ (x : Prg × Int) : sh_rSequ (v_rSequ x) = c_rSequ.ans x := rfl
end Go.Proofs.Ytclabjihjopclaa.Ax
end

section
/- The statement ClasTells. -/
namespace Go.Proofs.Ytclabjihjopclaa.Ax
open Go.RowKit
set_option linter.unusedVariables false
set_option linter.unusedSimpArgs false
def rdLLIIq : List A → List Int × List Int × Int × Int
  | [.c (.sl l), .c (.sl m), .c (.int _ i), .c (.int _ j)] => (listOf Int l, listOf Int m, i, j)
  | _ => default
def c_lCT : FT (List Int × List Int × Int × Int) := ⟨21, fun x => [al x.1, al x.2.1, ai x.2.2.1, ai x.2.2.2], rdLLIIq, fun _ => True, fun x => rb true, false, fun x => by simp [al, ai, rdLLIIq]⟩
noncomputable def a_lCT : FnA := (fnA Try.prog Try.f21 4 []).getD ⟨0, .skip, [], []⟩
noncomputable def s_lCT : Sp := spT [c_make.gfe v_make sh_make e_make, c_states.gfe v_states sh_states e_states, c_differ.gfe v_differ sh_differ e_differ, c_rDiff.gfe v_rDiff sh_rDiff e_rDiff, c_sequ.gfe v_sequ sh_sequ e_sequ, c_rSequ.gfe v_rSequ sh_rSequ e_rSequ, c_awake23.fe]
theorem s_lCT_sound : s_lCT.sound Try.prog := spT_sound fun e he => by
  simp only [List.mem_cons, List.not_mem_nil, or_false] at he
  rcases he with rfl | rfl | rfl | rfl | rfl | rfl | rfl
  · exact FT.gfe_good c_make_good
  · exact FT.gfe_good c_states_good
  · exact FT.gfe_good c_differ_good
  · exact FT.gfe_good c_rDiff_good
  · exact FT.gfe_good c_sequ_good
  · exact FT.gfe_good c_rSequ_good
  · exact c_awake23_good
set_option maxRecDepth 100000 in
theorem t_lCT (m l : List Int) (how most : Int) : a_lCT.start s_lCT 400 [al m, al l, ai how, ai most] =
(VC.need (PreOk c_make (m, ()) [A.c (D.sl (rowsOn m))])
(VC.all (v_make (listOf Int (rowsOn m), ())) fun (y4 : Prg) =>
(VC.need (PreOk c_states (Prg.of (Prg.cells y4), l, how) [A.agg (Prg.cells y4), A.c (D.sl (rowsOn l)), A.c (D.int IntKind.i64 how)])
(VC.all (((startS (Prg.of (Prg.cells y4)) (toldS (List.length (placesS (Prg.of (Prg.cells y4)))) (padF (listOf Int (rowsOn l))) (List.length (placesS (Prg.of (Prg.cells y4)))))).fst, (startS (Prg.of (Prg.cells y4)) (toldS (List.length (placesS (Prg.of (Prg.cells y4)))) (twinF how (placesS (Prg.of (Prg.cells y4))) (listOf Int (rowsOn l))) (List.length (placesS (Prg.of (Prg.cells y4)))))).fst)) fun (y5 : Sta × Sta) =>
(VC.need (PreOk c_differ (Prg.of (Prg.cells y4), Sta.of (Sta.cells y5.fst), Sta.of (Sta.cells y5.snd)) [A.agg (Prg.cells y4), A.agg (Sta.cells y5.fst), A.agg (Sta.cells y5.snd)])
(VC.all (v_differ (Prg.of (Prg.cells y4), Sta.of (Sta.cells y5.fst), Sta.of (Sta.cells y5.snd))) fun (y6 : Bool) =>
(VC.need (PreOk c_rDiff (Prg.of (Prg.cells y4), Sta.of (Sta.cells y5.fst), Sta.of (Sta.cells y5.snd)) [A.agg (Prg.cells y4), A.agg (Sta.cells y5.fst), A.agg (Sta.cells y5.snd)])
(VC.all (v_rDiff (Prg.of (Prg.cells y4), Sta.of (Sta.cells y5.fst), Sta.of (Sta.cells y5.snd))) fun (y7 : Bool) =>
(VC.br (if true = true then !y6 == y7 else y6 == y7)
 (VC.ret (some (RR.c (Rc.d (D.bool false)))))
 (VC.need (PreOk c_differ (Prg.of (Prg.cells y4), Sta.of (Sta.cells y5.snd), Sta.of (Sta.cells y5.fst)) [A.agg (Prg.cells y4), A.agg (Sta.cells y5.snd), A.agg (Sta.cells y5.fst)])
 (VC.all (v_differ (Prg.of (Prg.cells y4), Sta.of (Sta.cells y5.snd), Sta.of (Sta.cells y5.fst))) fun (y8 : Bool) =>
 (VC.need (PreOk c_rDiff (Prg.of (Prg.cells y4), Sta.of (Sta.cells y5.fst), Sta.of (Sta.cells y5.snd)) [A.agg (Prg.cells y4), A.agg (Sta.cells y5.fst), A.agg (Sta.cells y5.snd)])
 (VC.all (v_rDiff (Prg.of (Prg.cells y4), Sta.of (Sta.cells y5.fst), Sta.of (Sta.cells y5.snd))) fun (y9 : Bool) =>
 (VC.br (if true = true then !y8 == y9 else y8 == y9)
  (VC.ret (some (RR.c (Rc.d (D.bool false)))))
  (VC.need (PreOk c_differ (Prg.of (Prg.cells y4), Sta.of (Sta.cells y5.fst), Sta.of (Sta.cells y5.fst)) [A.agg (Prg.cells y4), A.agg (Sta.cells y5.fst), A.agg (Sta.cells y5.fst)])
  (VC.all (v_differ (Prg.of (Prg.cells y4), Sta.of (Sta.cells y5.fst), Sta.of (Sta.cells y5.fst))) fun (y10 : Bool) =>
  (VC.br (y10)
   (VC.ret (some (RR.c (Rc.d (D.bool false)))))
   (VC.need (PreOk c_sequ (Prg.of (Prg.cells y4), bits BinOp.and IntKind.i64 most (1023 : Int)) [A.agg (Prg.cells y4), A.c (D.int IntKind.i64 (bits BinOp.and IntKind.i64 most (1023 : Int)))])
   (VC.all (v_sequ (Prg.of (Prg.cells y4), bits BinOp.and IntKind.i64 most (1023 : Int))) fun (y11 : Int × Bool × Bool) =>
   (VC.need (PreOk c_rSequ (Prg.of (Prg.cells y4), bits BinOp.and IntKind.i64 most (1023 : Int)) [A.agg (Prg.cells y4), A.c (D.int IntKind.i64 (bits BinOp.and IntKind.i64 most (1023 : Int)))])
   (VC.all (v_rSequ (Prg.of (Prg.cells y4), bits BinOp.and IntKind.i64 most (1023 : Int))) fun (y12 : Int × Bool × Bool) =>
   (VC.br (y11.fst == y12.fst)
    (VC.br (if false = true then !y11.snd.fst == y12.snd.fst else y11.snd.fst == y12.snd.fst)
     (VC.br (if false = true then !y11.snd.snd == y12.snd.snd else y11.snd.snd == y12.snd.snd)
      (VC.need (PreOk c_awake23 PUnit.unit [])
      (VC.ret (some (RR.c (Rc.d (D.bool true))))))
      (VC.ret (some (RR.c (Rc.d (D.bool false))))))
     (VC.ret (some (RR.c (Rc.d (D.bool false))))))
    (VC.ret (some (RR.c (Rc.d (D.bool false))))))))))))))))))))))))))) := by kernel_rfl
theorem differ_comm (p : Prg) (a b : Sta) : differS p b a = differS p a b := by
  unfold differS
  congr 1
  exact decide_eq_decide.2 ⟨Eq.symm, Eq.symm⟩
theorem differ_self (p : Prg) (a : Sta) : differS p a a = false := by
  unfold differS
  rw [decide_eq_true rfl]; rfl
theorem c_lCT_good : c_lCT.fe.Good Try.prog := by
  refine FT.good c_lCT ⟨Try.f21, by kernel_rfl, by decide +kernel, by kernel_rfl⟩ (fun ⟨m, l, how, most⟩ => by first | rfl | simp [c_lCT, rrRef, rii, rtri, rint, rpair, rsplit, rnewI, rnewE, rstab, rplaces, ri, rb, rib, rnum, rby, rss, rrun, rstep, rins, Sta.fresh]) fun ⟨m, l, how, most⟩ hp => ?_
  refine acalls_le s_lCT_sound (fn := Try.f21) (a := a_lCT) (nargs := 4) (tbl := []) (by kernel_rfl) (by kernel_rfl) rfl (m := 400) ?_
  show VC.holds _ _ _ (a_lCT.start s_lCT 400 [al m, al l, ai how, ai most])
  rw [t_lCT]
  try simp only [asRows_sl, asInt_int, asBool_bool, asStr_str, listOf_rowsOn, List.drop_zero, Prg.eta, Sta.eta, rowsOn_length, getD_drop, Nat.reduceAdd, rd_int, rd_PMem_name, rd_PMem_secret, rd_PMem_n, rd_PLabel_name, rd_PLabel_at_, rd_Ins_kind, rd_Ins_op, rd_Ins_d, rd_Ins_aR, rd_Ins_aN, rd_Ins_bR, rd_Ins_bN, rd_Ins_name, rd_Ins_target, rd_Ent_pc, rd_Ent_val, rd_Ent_addr, rd_Ent_fro, rd_Ent_next, rd_Ent_done, rd_Ent_known, rd_Ent_fault, rd_Place_reg, rd_Place_n, rd_Place_secret, rd_Obs_kind, rd_Obs_at_, rd_Dir_kind, rd_Dir_n, Prg.of_cells, Sta.of_cells]
  try simp only [c_lCT] at hp
  refine ⟨PreOk.mk trivial rfl, all_holds fun p hp0 => ?_⟩
  have hwf : WFM p := by rw [hp0]; exact (makeS_spec _).1
  clear hp0
  have hp := hwf.ok
  have hf : p.fuel ≤ 1000000 := by have := hwf.fuel; omega
  refine ⟨PreOk.mk hwf.toMems rfl, all_holds fun s2 hs2 => ?_⟩
  replace hs2 : s2 = statesS p l how := hs2
  obtain ⟨ha, hb, _⟩ := states_ok hp l how
  rw [← hs2] at ha hb
  clear hs2
  generalize s2.1 = a at ha ⊢
  generalize s2.2 = b at hb ⊢
  have sa := ha.small hp
  have sb := hb.small hp
  have cmp : ∀ y z : Bool, y = z → (if true = true then !(y == z) else y == z) = false := fun y z e => by rw [e]; simp
  have cmp2 : ∀ y z : Bool, y = z → (if false = true then !(y == z) else y == z) = true := fun y z e => by rw [e]; simp
  have pd : ∀ {x y : Sta}, SmallS x → SmallS y → PreOk c_differ (p, x, y) [ap p, as_ x, as_ y] := fun hx hy => PreOk.mk ⟨hp.mems, hx, hy, hp.len, hf⟩ rfl
  have pr : PreOk c_rDiff (p, a, b) [ap p, as_ a, as_ b] := PreOk.mk ⟨hp, ha, hb, hf⟩ rfl
  refine ⟨pd sa sb, all_holds fun y6 h6 => ⟨pr, all_holds fun y7 h7 => br_f (cmp y6 y7 ?_) ⟨pd sb sa, all_holds fun y8 h8 => ⟨pr, all_holds fun y9 h9 => br_f (cmp y8 y9 ?_) ⟨pd sa sa, all_holds fun y10 h10 => br_f ?_ ⟨PreOk.mk ⟨hp.w, hp.mems, hp.len, hf⟩ rfl, all_holds fun y11 h11 => ⟨PreOk.mk ⟨hp, hf⟩ rfl, all_holds fun y12 h12 => ?_⟩⟩⟩⟩⟩⟩⟩
  · rw [h6, h7]; rfl
  · replace h8 : y8 = differS p b a := h8
    replace h9 : y9 = differS p a b := h9
    rw [h8, h9, differ_comm]
  · replace h10 : y10 = differS p a a := h10
    rw [h10, differ_self]
  · replace h11 : y11 = sequS p (bits .and .i64 most 1023) := by rw [h11]; simp [v_sequ]
    replace h12 : y12 = sequS p (bits .and .i64 most 1023) := by rw [h12]; simp [v_rSequ]
    rw [← h11] at h12
    subst h12
    exact br_t (by simp) (br_t (cmp2 _ _ rfl) (br_t (cmp2 _ _ rfl) ⟨PreOk.mk trivial rfl, ret_le (RR.le_refl _)⟩))
end Go.Proofs.Ytclabjihjopclaa.Ax
end
