/- Several texts in one, in their order. -/
import Derived.Test.YtclabjihjopclaaPart1
import Derived.Test.YtclabjihjopclaaAxBk
import Derived.Test.YtclabjihjopclaaAxIn
section
/- Layer 19: splitting, products, powers, counts. -/
namespace Go.Proofs.Ytclabjihjopclaa.Ax
open Go.RowKit
set_option linter.unusedVariables false
set_option linter.unusedSimpArgs false
def rdPIq : List A → Prg × Int
  | [.agg l, .c (.int _ i)] => (Prg.of l, i)
  | _ => default
noncomputable def v_aPlaces : Prg → List Place := fun x => placesS x
noncomputable def sh_aPlaces : List Place → RR := fun l => rplaces l
theorem e_aPlaces (x : Prg) : sh_aPlaces (v_aPlaces x) = c_aPlaces.ans x := rfl
def rsplit (x : List Int × List Int) : RR := .tup [.inl (.d (.sl (rowsOn x.1))), .inl (.d (.sl (rowsOn x.2)))]
def c_split : FT Prg := ⟨91, fun p => [ap p], rdP1, fun p => Mems p.mems, fun p => rsplit (openS p, secS p), true, fun p => by simp [ap, rdP1]⟩
noncomputable def a_split : FnA := (fnA Try.prog Try.f91 1 [(2, [2, 3, 7, 8, 9, 1000002000000900001001, 1000003000000900002001, 1000007000000900003003])]).getD ⟨0, .skip, [], []⟩
noncomputable def s_split : Sp := spT [c_aPlaces.gfe v_aPlaces sh_aPlaces e_aPlaces]
theorem s_split_sound : s_split.sound Try.prog := spT_sound fun e he => by
  simp only [List.mem_cons, List.not_mem_nil, or_false] at he
  rcases he with rfl
  · exact FT.gfe_good c_aPlaces_good
def F_split (q : List (List D)) (nq n0 n1 : Nat) (R0 R1 : List (List D)) (nn i : Int) : St := ⟨mkS 27 [(2, vo 900001 n0), (3, vo 900002 n1), (7, vo 900003 nq), (8, vi nn), (9, vi i)], [(900001, ba 1 R0), (900002, ba 1 R1), (900003, ba 3 q)]⟩
set_option maxRecDepth 100000 in
theorem t_split (p : Prg) : a_split.start s_split 400 [ap p] =
(VC.need (PreOk c_aPlaces p [A.agg (Prg.cells p)])
(VC.all (v_aPlaces { w := p.w, window := p.window, fuel := p.fuel, r0 := p.r0, r1 := p.r1, r2 := p.r2, r3 := p.r3, mems := listOf PMem (rowsOn p.mems), labels := listOf PLabel (rowsOn p.labels), ins := listOf Ins (rowsOn p.ins) }) fun (y1 : List Place) =>
(FnA.at_ a_split 0 (F_split (rowsOn y1) (List.length (rowsOn y1)) (0 : Nat) (0 : Nat) [] [] (↑(List.length (rowsOn y1)) : Int) (0 : Int))))) := by kernel_rfl
set_option maxRecDepth 100000 in
theorem t_split0 (q : List (List D)) (nq n0 n1 : Nat) (R0 R1 : List (List D)) (nn i : Int) : a_split.round s_split 400 0 (F_split q nq n0 n1 R0 R1 nn i) =
(VC.br (decide (i < nn))
 (VC.need ((0 : Int) ≤ i ∧ i < (↑nq : Int))
 (VC.need (Int.toNat i < List.length q ∧ List.length (rowAt q (Int.toNat i)) = (3 : Nat) ∧ okSh [Kd.bool, Kd.int IntKind.i64, Kd.bool] (List.drop (0 : Nat) (rowAt q (Int.toNat i))))
 (VC.br (asBool (List.getD (List.drop (0 : Nat) (rowAt q (Int.toNat i))) (2 : Nat) D.nilp))
  (VC.need ((List.all [[D.int IntKind.i64 i]] fun r ↦ List.length r == (1 : Nat)) = true ∧ (List.all R1 fun r ↦ List.length r == (1 : Nat)) = true ∧ (List.length R1 + List.length [[D.int IntKind.i64 i]] + (100 : Nat)) * (9 : Nat) ≤ (70368744177664 : Nat))
  (FnA.at_ a_split 0 (F_split q nq n0 (List.length R1 + List.length [[D.int IntKind.i64 i]]) R0 (R1 ++ [[D.int IntKind.i64 i]]) nn (IntKind.wrap IntKind.i64 (i + (1 : Int))))))
  (VC.need ((List.all [[D.int IntKind.i64 i]] fun r ↦ List.length r == (1 : Nat)) = true ∧ (List.all R0 fun r ↦ List.length r == (1 : Nat)) = true ∧ (List.length R0 + List.length [[D.int IntKind.i64 i]] + (100 : Nat)) * (9 : Nat) ≤ (70368744177664 : Nat))
  (FnA.at_ a_split 0 (F_split q nq (List.length R0 + List.length [[D.int IntKind.i64 i]]) n1 (R0 ++ [[D.int IntKind.i64 i]]) R1 nn (IntKind.wrap IntKind.i64 (i + (1 : Int)))))))))
 (VC.ret (some (RR.tup [Sum.inl (Rc.new (1 : Nat) R0), Sum.inl (Rc.new (1 : Nat) R1)])))) := by kernel_rfl
theorem l_split0 (q : List Place) (hq : q.length ≤ 2000) : ∀ i : Int × Nat × Nat × List (List D) × List (List D), (fun (i : Int × Nat × Nat × List (List D) × List (List D)) => 0 ≤ i.1 ∧ i.1 ≤ q.length ∧ OnL i.2.2.2.1 i.2.1 (idxW false (q.take i.1.toNat) 0) ∧ OnL i.2.2.2.2 i.2.2.1 (idxW true (q.take i.1.toNat) 0)) i → (a_split.at_ 0 ((fun (i : Int × Nat × Nat × List (List D) × List (List D)) => F_split (rowsOn q) q.length i.2.1 i.2.2.1 i.2.2.2.1 i.2.2.2.2 q.length i.1) i)).holds s_split.cx a_split.rs (fun r => r.data.le (rsplit (idxW false q 0, idxW true q 0))) := by
  refine loop_rule (a := a_split) (j := 0) (m := 400) s_split_sound (fun (i : Int × Nat × Nat × List (List D) × List (List D)) => F_split (rowsOn q) q.length i.2.1 i.2.2.1 i.2.2.2.1 i.2.2.2.2 q.length i.1) (fun (i : Int × Nat × Nat × List (List D) × List (List D)) => 0 ≤ i.1 ∧ i.1 ≤ q.length ∧ OnL i.2.2.2.1 i.2.1 (idxW false (q.take i.1.toNat) 0) ∧ OnL i.2.2.2.2 i.2.2.1 (idxW true (q.take i.1.toNat) 0)) (fun (i : Int × Nat × Nat × List (List D) × List (List D)) => ((q.length : Int) - i.1).toNat) ?_
  rintro ⟨i, n0, n1, R0, R1⟩ h_inv ih
  try dsimp only at h_inv
  replace ih := fun (v0 : Int) (v1 : Nat) (v2 : Nat) (v3 : List (List D)) (v4 : List (List D)) => ih (v0, v1, v2, v3, v4)
  try dsimp only at ih
  show VC.holds _ _ _ (a_split.round s_split 400 0 (F_split (rowsOn q) q.length n0 n1 R0 R1 q.length i))
  rw [t_split0]
  try simp only [asRows_sl, asInt_int, asBool_bool, asStr_str, listOf_rowsOn, List.drop_zero, Prg.eta, Sta.eta, rowsOn_length, getD_drop, Nat.reduceAdd, rd_int, rd_PMem_name, rd_PMem_secret, rd_PMem_n, rd_PLabel_name, rd_PLabel_at_, rd_Ins_kind, rd_Ins_op, rd_Ins_d, rd_Ins_aR, rd_Ins_aN, rd_Ins_bR, rd_Ins_bN, rd_Ins_name, rd_Ins_target, rd_Ent_pc, rd_Ent_val, rd_Ent_addr, rd_Ent_fro, rd_Ent_next, rd_Ent_done, rd_Ent_known, rd_Ent_fault, rd_Place_reg, rd_Place_n, rd_Place_secret, rd_Obs_kind, rd_Obs_at_, rd_Dir_kind, rd_Dir_n, Prg.of_cells, Sta.of_cells]
  obtain ⟨h0, h1, h2, h3⟩ := h_inv
  have w1 : IntKind.wrap .i64 (i + 1) = i + 1 := wrap_small _ (by omega) (by omega)
  rw [w1]
  have hl := idxW_len (q.take i.toNat) 0
  have hl2 : (q.take i.toNat).length ≤ 2000 := by simp only [List.length_take]; omega
  have en : (i + 1).toNat = i.toNat + 1 := by omega
  have er : [[D.int IntKind.i64 i]] = [row i] := rfl
  refine br_dec (fun hd => ?_) (fun hd => ?_)
  · have ht := fun b => idxW_take b q i.toNat (by omega)
    have hx : (rd q i).secret = q[i.toNat].secret := by
      show (q.getD i.toNat default).secret = _
      rw [List.getD_eq_getElem?_getD, List.getElem?_eq_getElem (by omega)]
      rfl
    refine ⟨⟨h0, hd⟩, ⟨by omega, by rw [rowAt_on q i h0 hd]; rfl, okSh_okD _ 0 q i (fun _ => rfl) h0 hd⟩, ?_⟩
    rw [er]
    refine br_holds (fun hb => ?_) (fun hb => ?_)
    · have hb : q[i.toNat].secret = true := by rw [← hx]; exact hb
      refine ⟨app_ok h3 rfl rfl (by simp only [List.length_cons, List.length_nil]; omega), ih _ _ _ _ _ ⟨by omega, by omega, ?_, ?_⟩ (by omega)⟩
      · rw [en, ht false, hb, if_neg (by decide), List.append_nil]; exact h2
      · rw [en, ht true, if_pos hb, show (i.toNat : Int) = i by omega]; exact h3.snoc i
    · have hb : q[i.toNat].secret = false := by rw [← hx]; exact hb
      refine ⟨app_ok h2 rfl rfl (by simp only [List.length_cons, List.length_nil]; omega), ih _ _ _ _ _ ⟨by omega, by omega, ?_, ?_⟩ (by omega)⟩
      · rw [en, ht false, if_pos hb, show (i.toNat : Int) = i by omega]; exact h2.snoc i
      · rw [en, ht true, hb, if_neg (by decide), List.append_nil]; exact h3
  · have hi : i.toNat = q.length := by omega
    rw [hi, List.take_length] at h2 h3
    refine ret_leD ?_
    rw [h2.1, h3.1]
    exact RR.le_of_eq rfl
theorem c_split_good : c_split.fe.Good Try.prog := by
  refine FT.good c_split ⟨Try.f91, by kernel_rfl, by decide +kernel, by kernel_rfl⟩ (fun p => by first | rfl | simp [c_split, rrRef, rnewI, rnewE, rstab, rplaces, ri, rb, rib, rsplit, Sta.fresh]) fun p hp => ?_
  refine acalls_leD s_split_sound (fn := Try.f91) (a := a_split) (nargs := 1) (tbl := [(2, [2, 3, 7, 8, 9, 1000002000000900001001, 1000003000000900002001, 1000007000000900003003])]) (by kernel_rfl) (by kernel_rfl) rfl (m := 400) ?_
  show VC.holds _ _ _ (a_split.start s_split 400 [ap p])
  rw [t_split]
  try simp only [asRows_sl, asInt_int, asBool_bool, asStr_str, listOf_rowsOn, List.drop_zero, Prg.eta, Sta.eta, rowsOn_length, getD_drop, Nat.reduceAdd, rd_int, rd_PMem_name, rd_PMem_secret, rd_PMem_n, rd_PLabel_name, rd_PLabel_at_, rd_Ins_kind, rd_Ins_op, rd_Ins_d, rd_Ins_aR, rd_Ins_aN, rd_Ins_bR, rd_Ins_bN, rd_Ins_name, rd_Ins_target, rd_Ent_pc, rd_Ent_val, rd_Ent_addr, rd_Ent_fro, rd_Ent_next, rd_Ent_done, rd_Ent_known, rd_Ent_fault, rd_Place_reg, rd_Place_n, rd_Place_secret, rd_Obs_kind, rd_Obs_at_, rd_Dir_kind, rd_Dir_n, Prg.of_cells, Sta.of_cells]
  try simp only [c_split] at hp
  have hl := places_len p hp
  refine ⟨PreOk.mk hp rfl, all_holds fun y hy => ?_⟩
  replace hy : y = placesS p := by rw [hy]; simp [v_aPlaces]
  subst hy
  exact l_split0 _ (by omega) (0, 0, 0, [], []) ⟨by simp, by simp, OnL.nil, OnL.nil⟩

def rdII2 : List A → Int × Int
  | [.c (.int _ i), .c (.int _ j)] => (i, j)
  | _ => default
def c_times : FT (Int × Int) := ⟨92, fun x => [ai x.1, ai x.2], rdII2, fun x => 0 ≤ x.1 ∧ x.1 ≤ farS ∧ 0 ≤ x.2 ∧ x.2 ≤ farS, fun x => ri (min (x.1 * x.2) farS), false, fun x => by simp [ai, rdII2]⟩
noncomputable def a_times : FnA := (fnA Try.prog Try.f92 2 []).getD ⟨0, .skip, [], []⟩
def s_times : Sp := spT []
theorem s_times_sound : s_times.sound Try.prog := spT_sound fun e he => by cases he
set_option maxRecDepth 100000 in
theorem t_times (a b : Int) : a_times.start s_times 400 [ai a, ai b] =
(VC.br (decide ((0 : Int) < a))
 (VC.need (a ≠ (0 : Int))
 (VC.br (decide (IntKind.wrap IntKind.i64 (Int.tdiv (IntKind.wrap IntKind.i64 (IntKind.wrap IntKind.i64 ((1073741824 : Int) + a) - (1 : Int))) a) ≤ b))
  (VC.ret (some (RR.c (Rc.d (D.int IntKind.i64 (1073741824 : Int))))))
  (VC.ret (some (RR.c (Rc.d (D.int IntKind.i64 (IntKind.wrap IntKind.i64 (a * b)))))))))
 (VC.ret (some (RR.c (Rc.d (D.int IntKind.i64 (IntKind.wrap IntKind.i64 (a * b)))))))) := by kernel_rfl
theorem c_times_good : c_times.fe.Good Try.prog := by
  refine FT.good c_times ⟨Try.f92, by kernel_rfl, by decide +kernel, by kernel_rfl⟩ (fun ⟨a, b⟩ => by first | rfl | simp [c_times, rrRef, rnewI, rnewE, rstab, rplaces, ri, rb, rib, rsplit, Sta.fresh]) fun ⟨a, b⟩ hp => ?_
  refine acalls_le s_times_sound (fn := Try.f92) (a := a_times) (nargs := 2) (tbl := []) (by kernel_rfl) (by kernel_rfl) rfl (m := 400) ?_
  show VC.holds _ _ _ (a_times.start s_times 400 [ai a, ai b])
  rw [t_times]
  try simp only [asRows_sl, asInt_int, asBool_bool, asStr_str, listOf_rowsOn, List.drop_zero, Prg.eta, Sta.eta, rowsOn_length, getD_drop, Nat.reduceAdd, rd_int, rd_PMem_name, rd_PMem_secret, rd_PMem_n, rd_PLabel_name, rd_PLabel_at_, rd_Ins_kind, rd_Ins_op, rd_Ins_d, rd_Ins_aR, rd_Ins_aN, rd_Ins_bR, rd_Ins_bN, rd_Ins_name, rd_Ins_target, rd_Ent_pc, rd_Ent_val, rd_Ent_addr, rd_Ent_fro, rd_Ent_next, rd_Ent_done, rd_Ent_known, rd_Ent_fault, rd_Place_reg, rd_Place_n, rd_Place_secret, rd_Obs_kind, rd_Obs_at_, rd_Dir_kind, rd_Dir_n, Prg.of_cells, Sta.of_cells]
  try simp only [c_times] at hp
  obtain ⟨h1, h2, h3, h4⟩ := hp
  dsimp only [farS] at h2 h4
  have e : c_times.ans (a, b) = ri (min (a * b) 1073741824) := rfl
  rw [e, wrap_small (1073741824 + a) (by omega) (by omega), wrap_small (1073741824 + a - 1) (by omega) (by omega)]
  refine br_dec (fun hpos => ?_) (fun hpos => ?_)
  · have hX : Int.tdiv (1073741824 + a - 1) a = (1073741824 + a - 1) / a := Int.tdiv_eq_ediv_of_nonneg (by omega)
    have hb : 0 ≤ (1073741824 + a - 1) / a := Int.ediv_nonneg (by omega) h1
    have hc : (1073741824 + a - 1) / a ≤ 1073741824 + a - 1 := Int.ediv_le_self _ (by omega)
    rw [hX, wrap_small ((1073741824 + a - 1) / a) (by omega) (by omega)]
    have key : (1073741824 + a - 1) / a < b + 1 ↔ 1073741824 + a - 1 < (b + 1) * a := Int.ediv_lt_iff_lt_mul hpos
    have hm : (b + 1) * a = a * b + a := by rw [Int.add_mul, Int.one_mul, Int.mul_comm]
    have hab : 0 ≤ a * b := Int.mul_nonneg h1 h3
    refine ⟨by omega, br_dec (fun h => ret_le (RR.le_of_eq ?_)) (fun h => ret_le (RR.le_of_eq ?_))⟩
    · rw [show min (a * b) 1073741824 = 1073741824 by omega]; rfl
    · rw [wrap_small (a * b) (by omega) (by omega), show min (a * b) 1073741824 = a * b by omega]; rfl
  · have : a = 0 := by omega
    subst this
    refine ret_le (RR.le_of_eq ?_)
    rw [Int.zero_mul, wrap_small 0 (by omega) (by omega)]; rfl
def c_power : FT (Prg × Int) := ⟨93, fun x => [ap x.1, ai x.2], rdPIq, fun x => okW x.1.w ∧ 0 ≤ x.2 ∧ x.2 ≤ 1000000, fun x => ri (powS x.1 x.2.toNat), false, fun x => by simp [ap, ai, rdPIq]⟩
noncomputable def a_power : FnA := (fnA Try.prog Try.f93 2 [(3, [2, 5, 6, 7])]).getD ⟨0, .skip, [], []⟩
def s_power : Sp := spT [c_times.fe, c_wSize.fe]
theorem s_power_sound : s_power.sound Try.prog := spT_sound fun e he => by
  simp only [List.mem_cons, List.not_mem_nil, or_false] at he
  rcases he with rfl | rfl
  · exact c_times_good
  · exact c_wSize_good
def F_power (p : Prg) (acc n d : Int) : St := ⟨mkS 16 [(2, vp 128), (5, vi acc), (6, vi n), (7, vi d)], [(128, bx p.cells)]⟩
set_option maxRecDepth 100000 in
theorem t_power (p : Prg) (n : Int) : a_power.start s_power 400 [ap p, ai n] =
(FnA.at_ a_power 0 (F_power p (1 : Int) n (0 : Int))) := by kernel_rfl
set_option maxRecDepth 100000 in
theorem t_power0 (p : Prg) (acc n d : Int) : a_power.round s_power 400 0 (F_power p acc n d) =
(VC.br (decide (d < n))
 (VC.need (PreOk c_wSize p.w [A.c (D.int IntKind.i64 p.w)])
 (VC.need (PreOk c_times (acc, sizeS p.w) [A.c (D.int IntKind.i64 acc), A.c (D.int IntKind.i64 (sizeS p.w))])
 (FnA.at_ a_power 0 (F_power p (min (acc * sizeS p.w) (1073741824 : Int)) n (IntKind.wrap IntKind.i64 (d + (1 : Int)))))))
 (VC.ret (some (RR.c (Rc.d (D.int IntKind.i64 acc)))))) := by kernel_rfl
theorem powS_succ {p : Prg} (h : okW p.w) (n : Nat) : min (powS p n * sizeS p.w) farS = powS p (n + 1) := by
  have h1 := size_pos h
  have hx : 0 < sizeS p.w ^ n := Int.pow_pos (by omega)
  unfold powS
  rw [Int.pow_succ]
  generalize sizeS p.w ^ n = x at *
  generalize sizeS p.w = S at *
  by_cases hf : x ≤ farS
  · rw [show min x farS = x by omega]
  · have a1 : farS * 1 ≤ farS * S := Int.mul_le_mul_of_nonneg_left (by omega) (by decide)
    have a2 : farS * S ≤ x * S := Int.mul_le_mul_of_nonneg_right (by omega) (by omega)
    rw [show min x farS = farS by omega]
    omega
theorem powS_zero (p : Prg) : powS p 0 = 1 := by unfold powS; rw [Int.pow_zero]; decide
theorem l_power0 (p : Prg) (n : Int) (hw : okW p.w) (h0 : 0 ≤ n) (h1 : n ≤ 1000000) : ∀ i : Int × Int, (fun (i : Int × Int) => 0 ≤ i.2 ∧ i.2 ≤ n ∧ i.1 = powS p i.2.toNat) i → (a_power.at_ 0 ((fun (i : Int × Int) => F_power p i.1 n i.2) i)).holds s_power.cx a_power.rs (fun r => r.le (ri (powS p n.toNat))) := by
  refine loop_rule (a := a_power) (j := 0) (m := 400) s_power_sound (fun (i : Int × Int) => F_power p i.1 n i.2) (fun (i : Int × Int) => 0 ≤ i.2 ∧ i.2 ≤ n ∧ i.1 = powS p i.2.toNat) (fun (i : Int × Int) => (n - i.2).toNat) ?_
  rintro ⟨acc, d⟩ h_inv ih
  try dsimp only at h_inv
  replace ih := fun (v0 : Int) (v1 : Int) => ih (v0, v1)
  try dsimp only at ih
  show VC.holds _ _ _ (a_power.round s_power 400 0 (F_power p acc n d))
  rw [t_power0]
  try simp only [asRows_sl, asInt_int, asBool_bool, asStr_str, listOf_rowsOn, List.drop_zero, Prg.eta, Sta.eta, rowsOn_length, getD_drop, Nat.reduceAdd, rd_int, rd_PMem_name, rd_PMem_secret, rd_PMem_n, rd_PLabel_name, rd_PLabel_at_, rd_Ins_kind, rd_Ins_op, rd_Ins_d, rd_Ins_aR, rd_Ins_aN, rd_Ins_bR, rd_Ins_bN, rd_Ins_name, rd_Ins_target, rd_Ent_pc, rd_Ent_val, rd_Ent_addr, rd_Ent_fro, rd_Ent_next, rd_Ent_done, rd_Ent_known, rd_Ent_fault, rd_Place_reg, rd_Place_n, rd_Place_secret, rd_Obs_kind, rd_Obs_at_, rd_Dir_kind, rd_Dir_n, Prg.of_cells, Sta.of_cells]
  obtain ⟨h2, h3, h4⟩ := h_inv
  have w1 : IntKind.wrap .i64 (d + 1) = d + 1 := wrap_small _ (by omega) (by omega)
  have hp := powS_pos hw d.toNat
  have hs := size_pos hw
  have hn := powS_succ hw d.toNat
  rw [← h4] at hn hp
  rw [w1]
  repeat' first
    | refine br_not ?_
    | refine br_dec (fun _ => ?_) (fun _ => ?_)
    | refine br_beq (fun _ => ?_) (fun _ => ?_)
    | refine br_bne (fun _ => ?_) (fun _ => ?_)
    | refine br_holds (fun _ => ?_) (fun _ => ?_)
    | refine ⟨PreOk.mk ?_ rfl, ?_⟩
    | refine ⟨idx_ok _ _ _ rfl (by omega) (by omega), ?_⟩
    | refine ⟨okSh_ok _ _ _ (fun _ => rfl) (by omega) (by omega), ?_⟩
    | refine ⟨okSh_okD _ _ _ _ (fun _ => rfl) (by omega) (by omega), ?_⟩
    | refine ⟨aload_ok _ _ rfl (fun _ => rfl) (by omega) (by omega), ?_⟩
    | refine ⟨aload_okD _ _ _ rfl (fun _ => rfl) (by omega) (by omega), ?_⟩
    | refine ⟨astore_ok (by assumption) rfl (by omega) (by omega) (by decide), ?_⟩
    | refine ⟨app_ok (by assumption) rfl rfl (by simp only [List.length_cons, List.length_nil]; omega), ?_⟩
    | refine need_holds ?_ fun _ => ?_
    | refine all_holds fun y hy => ?_
    | refine ret_le ?_
    | refine ih _ _ ?_ ?_
  all_goals try omega
  · exact trivial
  · dsimp only [farS, c_times] at *; exact ⟨by omega, by omega, by omega, by omega⟩
  · refine ⟨by omega, by omega, ?_⟩
    rw [show (d + 1).toNat = d.toNat + 1 by omega, ← hn]; rfl
  · rw [h4, show d.toNat = n.toNat by omega]; exact RR.le_refl _
theorem c_power_good : c_power.fe.Good Try.prog := by
  refine FT.good c_power ⟨Try.f93, by kernel_rfl, by decide +kernel, by kernel_rfl⟩ (fun ⟨p, n⟩ => by first | rfl | simp [c_power, rrRef, rnewI, rnewE, rstab, rplaces, ri, rb, rib, rsplit, Sta.fresh]) fun ⟨p, n⟩ hp => ?_
  refine acalls_le s_power_sound (fn := Try.f93) (a := a_power) (nargs := 2) (tbl := [(3, [2, 5, 6, 7])]) (by kernel_rfl) (by kernel_rfl) rfl (m := 400) ?_
  show VC.holds _ _ _ (a_power.start s_power 400 [ap p, ai n])
  rw [t_power]
  try simp only [asRows_sl, asInt_int, asBool_bool, asStr_str, listOf_rowsOn, List.drop_zero, Prg.eta, Sta.eta, rowsOn_length, getD_drop, Nat.reduceAdd, rd_int, rd_PMem_name, rd_PMem_secret, rd_PMem_n, rd_PLabel_name, rd_PLabel_at_, rd_Ins_kind, rd_Ins_op, rd_Ins_d, rd_Ins_aR, rd_Ins_aN, rd_Ins_bR, rd_Ins_bN, rd_Ins_name, rd_Ins_target, rd_Ent_pc, rd_Ent_val, rd_Ent_addr, rd_Ent_fro, rd_Ent_next, rd_Ent_done, rd_Ent_known, rd_Ent_fault, rd_Place_reg, rd_Place_n, rd_Place_secret, rd_Obs_kind, rd_Obs_at_, rd_Dir_kind, rd_Dir_n, Prg.of_cells, Sta.of_cells]
  try simp only [c_power] at hp
  obtain ⟨hw, h0, h1⟩ := hp
  exact l_power0 p n hw h0 h1 (1, 0) ⟨by simp, h0, (powS_zero p).symm⟩
def rdI1u : List A → Int × Unit
  | [.c (.int _ i)] => (i, ())
  | _ => default
def c_twos : FT (Int × Unit) := ⟨94, fun x => [ai x.1], rdI1u, fun x => 0 ≤ x.1 ∧ x.1 ≤ farS, fun x => ri (twoS x.1), false, fun x => rfl⟩
noncomputable def a_twos : FnA := (fnA Try.prog Try.f94 1 []).getD ⟨0, .skip, [], []⟩
def s_twos : Sp := spT [c_times.fe]
theorem s_twos_sound : s_twos.sound Try.prog := spT_sound fun e he => by
  simp only [List.mem_cons, List.not_mem_nil, or_false] at he
  rcases he with rfl
  · exact c_times_good
set_option maxRecDepth 100000 in
theorem t_twos (n : Int) : a_twos.start s_twos 400 [ai n] =
(VC.need ((2 : Int) ≠ (0 : Int))
(VC.br (Int.tmod n (2 : Int) == (0 : Int))
 (VC.need ((2 : Int) ≠ (0 : Int))
 (VC.need (PreOk c_times (IntKind.wrap IntKind.i64 (Int.tdiv n (2 : Int)), max (IntKind.wrap IntKind.i64 (n - (1 : Int))) (0 : Int)) [A.c (D.int IntKind.i64 (IntKind.wrap IntKind.i64 (Int.tdiv n (2 : Int)))), A.c (D.int IntKind.i64 (max (IntKind.wrap IntKind.i64 (n - (1 : Int))) (0 : Int)))])
 (VC.ret (some (RR.c (Rc.d (D.int IntKind.i64 (min (IntKind.wrap IntKind.i64 (Int.tdiv n (2 : Int)) * max (IntKind.wrap IntKind.i64 (n - (1 : Int))) (0 : Int)) (1073741824 : Int)))))))))
 (VC.need ((2 : Int) ≠ (0 : Int))
 (VC.need (PreOk c_times (n, IntKind.wrap IntKind.i64 (Int.tdiv (IntKind.wrap IntKind.i64 (n - (1 : Int))) (2 : Int))) [A.c (D.int IntKind.i64 n), A.c (D.int IntKind.i64 (IntKind.wrap IntKind.i64 (Int.tdiv (IntKind.wrap IntKind.i64 (n - (1 : Int))) (2 : Int))))])
 (VC.ret (some (RR.c (Rc.d (D.int IntKind.i64 (min (n * IntKind.wrap IntKind.i64 (Int.tdiv (IntKind.wrap IntKind.i64 (n - (1 : Int))) (2 : Int))) (1073741824 : Int))))))))))) := by kernel_rfl
theorem half_even {n : Int} (h : n % 2 = 0) : n / 2 * (n - 1) = n * (n - 1) / 2 := by
  obtain ⟨k, rfl⟩ : ∃ k, n = 2 * k := ⟨n / 2, by omega⟩
  rw [show 2 * k / 2 = k by omega, Int.mul_assoc, Int.mul_ediv_cancel_left _ (by decide)]
theorem half_odd {n : Int} (h : n % 2 = 1) : n * ((n - 1) / 2) = n * (n - 1) / 2 := by
  obtain ⟨k, rfl⟩ : ∃ k, n = 2 * k + 1 := ⟨n / 2, by omega⟩
  rw [show (2 * k + 1 - 1) / 2 = k by omega, show 2 * k + 1 - 1 = 2 * k by omega, Int.mul_left_comm, Int.mul_ediv_cancel_left _ (by decide)]
theorem c_twos_good : c_twos.fe.Good Try.prog := by
  refine FT.good c_twos ⟨Try.f94, by kernel_rfl, by decide +kernel, by kernel_rfl⟩ (fun ⟨n, u⟩ => by first | rfl | simp [c_twos, rrRef, rnewI, rnewE, rstab, rplaces, ri, rb, rib, rsplit, Sta.fresh]) fun ⟨n, u⟩ hp => ?_
  refine acalls_le s_twos_sound (fn := Try.f94) (a := a_twos) (nargs := 1) (tbl := []) (by kernel_rfl) (by kernel_rfl) rfl (m := 400) ?_
  show VC.holds _ _ _ (a_twos.start s_twos 400 [ai n])
  rw [t_twos]
  try simp only [asRows_sl, asInt_int, asBool_bool, asStr_str, listOf_rowsOn, List.drop_zero, Prg.eta, Sta.eta, rowsOn_length, getD_drop, Nat.reduceAdd, rd_int, rd_PMem_name, rd_PMem_secret, rd_PMem_n, rd_PLabel_name, rd_PLabel_at_, rd_Ins_kind, rd_Ins_op, rd_Ins_d, rd_Ins_aR, rd_Ins_aN, rd_Ins_bR, rd_Ins_bN, rd_Ins_name, rd_Ins_target, rd_Ent_pc, rd_Ent_val, rd_Ent_addr, rd_Ent_fro, rd_Ent_next, rd_Ent_done, rd_Ent_known, rd_Ent_fault, rd_Place_reg, rd_Place_n, rd_Place_secret, rd_Obs_kind, rd_Obs_at_, rd_Dir_kind, rd_Dir_n, Prg.of_cells, Sta.of_cells]
  try simp only [c_twos] at hp
  obtain ⟨h1, h2⟩ := hp
  dsimp only [farS] at h2
  have e : c_twos.ans (n, u) = ri (min (n * (n - 1) / 2) 1073741824) := rfl
  have t1 : Int.tdiv n 2 = n / 2 := Int.tdiv_eq_ediv_of_nonneg h1
  have t2 : Int.tmod n 2 = n % 2 := Int.tmod_eq_emod_of_nonneg h1
  rw [e, t1, t2, wrap_small (n - 1) (by omega) (by omega), wrap_small (n / 2) (by omega) (by omega)]
  refine ⟨by decide, br_beq (fun h => ?_) (fun h => ?_)⟩
  · refine ⟨by decide, PreOk.mk (by dsimp only [c_times, farS]; omega) rfl, ret_le (RR.le_of_eq ?_)⟩
    by_cases hn : n = 0
    · subst hn; rfl
    · rw [show max (n - 1) 0 = n - 1 by omega, half_even h]; rfl
  · have hm : n % 2 = 1 := by omega
    have t3 : Int.tdiv (n - 1) 2 = (n - 1) / 2 := Int.tdiv_eq_ediv_of_nonneg (by omega)
    rw [t3, wrap_small ((n - 1) / 2) (by omega) (by omega)]
    refine ⟨by decide, PreOk.mk (by dsimp only [c_times, farS]; omega) rfl, ret_le (RR.le_of_eq ?_)⟩
    rw [half_odd hm]; rfl
def c_count : FT (Prg × Int) := ⟨44, fun x => [ap x.1, ai x.2], rdPIq, fun x => okW x.1.w ∧ Mems x.1.mems, fun x => rib (countS x.1 x.2), false, fun x => by simp [ap, ai, rdPIq]⟩
noncomputable def a_count : FnA := (fnA Try.prog Try.f44 2 []).getD ⟨0, .skip, [], []⟩
def s_count : Sp := spT [c_split.fe, c_power.fe, c_twos.fe, c_times.fe]
theorem s_count_sound : s_count.sound Try.prog := spT_sound fun e he => by
  simp only [List.mem_cons, List.not_mem_nil, or_false] at he
  rcases he with rfl | rfl | rfl | rfl
  · exact c_split_good
  · exact c_power_good
  · exact c_twos_good
  · exact c_times_good
set_option maxRecDepth 100000 in
theorem t_count (p : Prg) (most : Int) : a_count.start s_count 400 [ap p, ai most] =
(VC.need (PreOk c_split p [A.agg (Prg.cells p)])
(VC.need (PreOk c_power (Prg.of (Prg.cells p), (↑(List.length (rowsOn (openS { w := p.w, window := p.window, fuel := p.fuel, r0 := p.r0, r1 := p.r1, r2 := p.r2, r3 := p.r3, mems := listOf PMem (rowsOn p.mems), labels := listOf PLabel (rowsOn p.labels), ins := listOf Ins (rowsOn p.ins) }))) : Int)) [A.agg (Prg.cells p), A.c (D.int IntKind.i64 (↑(List.length (rowsOn (openS { w := p.w, window := p.window, fuel := p.fuel, r0 := p.r0, r1 := p.r1, r2 := p.r2, r3 := p.r3, mems := listOf PMem (rowsOn p.mems), labels := listOf PLabel (rowsOn p.labels), ins := listOf Ins (rowsOn p.ins) }))) : Int))])
(VC.need (PreOk c_power (Prg.of (Prg.cells p), (↑(List.length (rowsOn (secS { w := p.w, window := p.window, fuel := p.fuel, r0 := p.r0, r1 := p.r1, r2 := p.r2, r3 := p.r3, mems := listOf PMem (rowsOn p.mems), labels := listOf PLabel (rowsOn p.labels), ins := listOf Ins (rowsOn p.ins) }))) : Int)) [A.agg (Prg.cells p), A.c (D.int IntKind.i64 (↑(List.length (rowsOn (secS { w := p.w, window := p.window, fuel := p.fuel, r0 := p.r0, r1 := p.r1, r2 := p.r2, r3 := p.r3, mems := listOf PMem (rowsOn p.mems), labels := listOf PLabel (rowsOn p.labels), ins := listOf Ins (rowsOn p.ins) }))) : Int))])
(VC.need (PreOk c_twos (powS (Prg.of (Prg.cells p)) (Int.toNat (↑(List.length (rowsOn (secS { w := p.w, window := p.window, fuel := p.fuel, r0 := p.r0, r1 := p.r1, r2 := p.r2, r3 := p.r3, mems := listOf PMem (rowsOn p.mems), labels := listOf PLabel (rowsOn p.labels), ins := listOf Ins (rowsOn p.ins) }))) : Int)), ()) [A.c (D.int IntKind.i64 (powS (Prg.of (Prg.cells p)) (Int.toNat (↑(List.length (rowsOn (secS { w := p.w, window := p.window, fuel := p.fuel, r0 := p.r0, r1 := p.r1, r2 := p.r2, r3 := p.r3, mems := listOf PMem (rowsOn p.mems), labels := listOf PLabel (rowsOn p.labels), ins := listOf Ins (rowsOn p.ins) }))) : Int))))])
(VC.need (PreOk c_times (powS (Prg.of (Prg.cells p)) (Int.toNat (↑(List.length (rowsOn (openS { w := p.w, window := p.window, fuel := p.fuel, r0 := p.r0, r1 := p.r1, r2 := p.r2, r3 := p.r3, mems := listOf PMem (rowsOn p.mems), labels := listOf PLabel (rowsOn p.labels), ins := listOf Ins (rowsOn p.ins) }))) : Int)), twoS (powS (Prg.of (Prg.cells p)) (Int.toNat (↑(List.length (rowsOn (secS { w := p.w, window := p.window, fuel := p.fuel, r0 := p.r0, r1 := p.r1, r2 := p.r2, r3 := p.r3, mems := listOf PMem (rowsOn p.mems), labels := listOf PLabel (rowsOn p.labels), ins := listOf Ins (rowsOn p.ins) }))) : Int)))) [A.c (D.int IntKind.i64 (powS (Prg.of (Prg.cells p)) (Int.toNat (↑(List.length (rowsOn (openS { w := p.w, window := p.window, fuel := p.fuel, r0 := p.r0, r1 := p.r1, r2 := p.r2, r3 := p.r3, mems := listOf PMem (rowsOn p.mems), labels := listOf PLabel (rowsOn p.labels), ins := listOf Ins (rowsOn p.ins) }))) : Int)))), A.c (D.int IntKind.i64 (twoS (powS (Prg.of (Prg.cells p)) (Int.toNat (↑(List.length (rowsOn (secS { w := p.w, window := p.window, fuel := p.fuel, r0 := p.r0, r1 := p.r1, r2 := p.r2, r3 := p.r3, mems := listOf PMem (rowsOn p.mems), labels := listOf PLabel (rowsOn p.labels), ins := listOf Ins (rowsOn p.ins) }))) : Int)))))])
(VC.br (decide (min (max most (0 : Int)) (1000000 : Int) < min (powS (Prg.of (Prg.cells p)) (Int.toNat (↑(List.length (rowsOn (openS { w := p.w, window := p.window, fuel := p.fuel, r0 := p.r0, r1 := p.r1, r2 := p.r2, r3 := p.r3, mems := listOf PMem (rowsOn p.mems), labels := listOf PLabel (rowsOn p.labels), ins := listOf Ins (rowsOn p.ins) }))) : Int)) * twoS (powS (Prg.of (Prg.cells p)) (Int.toNat (↑(List.length (rowsOn (secS { w := p.w, window := p.window, fuel := p.fuel, r0 := p.r0, r1 := p.r1, r2 := p.r2, r3 := p.r3, mems := listOf PMem (rowsOn p.mems), labels := listOf PLabel (rowsOn p.labels), ins := listOf Ins (rowsOn p.ins) }))) : Int)))) (1073741824 : Int)))
 (VC.ret (some (RR.tup [Sum.inl (Rc.d (D.int IntKind.i64 (0 : Int))), Sum.inl (Rc.d (D.bool false))])))
 (VC.ret (some (RR.tup [Sum.inl (Rc.d (D.int IntKind.i64 (min (powS (Prg.of (Prg.cells p)) (Int.toNat (↑(List.length (rowsOn (openS { w := p.w, window := p.window, fuel := p.fuel, r0 := p.r0, r1 := p.r1, r2 := p.r2, r3 := p.r3, mems := listOf PMem (rowsOn p.mems), labels := listOf PLabel (rowsOn p.labels), ins := listOf Ins (rowsOn p.ins) }))) : Int)) * twoS (powS (Prg.of (Prg.cells p)) (Int.toNat (↑(List.length (rowsOn (secS { w := p.w, window := p.window, fuel := p.fuel, r0 := p.r0, r1 := p.r1, r2 := p.r2, r3 := p.r3, mems := listOf PMem (rowsOn p.mems), labels := listOf PLabel (rowsOn p.labels), ins := listOf Ins (rowsOn p.ins) }))) : Int)))) (1073741824 : Int)))), Sum.inl (Rc.d (D.bool true))]))))))))) := by kernel_rfl
theorem split_len {p : Prg} (hm : Mems p.mems) : (openS p).length ≤ 2000 ∧ (secS p).length ≤ 2000 ∧ (openS p).length + (secS p).length = (placesS p).length := by
  have h1 := places_len p hm
  have h2 : (openS p).length + (secS p).length = (placesS p).length := idxW_len _ _
  omega
theorem c_count_good : c_count.fe.Good Try.prog := by
  refine FT.good c_count ⟨Try.f44, by kernel_rfl, by decide +kernel, by kernel_rfl⟩ (fun ⟨p, most⟩ => by first | rfl | simp [c_count, rrRef, rnewI, rnewE, rstab, rplaces, ri, rb, rib, rsplit, Sta.fresh]) fun ⟨p, most⟩ hp => ?_
  refine acalls_le s_count_sound (fn := Try.f44) (a := a_count) (nargs := 2) (tbl := []) (by kernel_rfl) (by kernel_rfl) rfl (m := 400) ?_
  show VC.holds _ _ _ (a_count.start s_count 400 [ap p, ai most])
  rw [t_count]
  try simp only [asRows_sl, asInt_int, asBool_bool, asStr_str, listOf_rowsOn, List.drop_zero, Prg.eta, Sta.eta, rowsOn_length, getD_drop, Nat.reduceAdd, rd_int, rd_PMem_name, rd_PMem_secret, rd_PMem_n, rd_PLabel_name, rd_PLabel_at_, rd_Ins_kind, rd_Ins_op, rd_Ins_d, rd_Ins_aR, rd_Ins_aN, rd_Ins_bR, rd_Ins_bN, rd_Ins_name, rd_Ins_target, rd_Ent_pc, rd_Ent_val, rd_Ent_addr, rd_Ent_fro, rd_Ent_next, rd_Ent_done, rd_Ent_known, rd_Ent_fault, rd_Place_reg, rd_Place_n, rd_Place_secret, rd_Obs_kind, rd_Obs_at_, rd_Dir_kind, rd_Dir_n, Prg.of_cells, Sta.of_cells]
  try simp only [c_count] at hp
  obtain ⟨hw, hm⟩ := hp
  obtain ⟨l1, l2, l3⟩ := split_len hm
  have b1 := powS_pos hw (openS p).length
  have b2 := powS_pos hw (secS p).length
  have b3 := twoS_pos b2.1
  simp only [Prg.of_cells, Int.toNat_natCast]
  have e : c_count.ans (p, most) = rib (countS p most) := rfl
  rw [e]
  unfold countS cntS
  dsimp only [farS] at *
  refine ⟨PreOk.mk hm rfl, PreOk.mk ⟨hw, by dsimp only; omega, by dsimp only; omega⟩ rfl, PreOk.mk ⟨hw, by dsimp only; omega, by dsimp only; omega⟩ rfl, PreOk.mk (by dsimp only [c_twos, farS]; omega) rfl, PreOk.mk (by dsimp only [c_times, farS]; omega) rfl, br_dec (fun h => ret_le (RR.le_of_eq ?_)) (fun h => ret_le (RR.le_of_eq ?_))⟩
  · show rib (0, false) = _
    exact (congrArg rib (if_pos h)).symm
  · show rib (min (powS p (openS p).length * twoS (powS p (secS p).length)) 1073741824, true) = _
    exact (congrArg rib (if_neg h)).symm
end Go.Proofs.Ytclabjihjopclaa.Ax
end

section
/- Programs of numbers: augurylaw6.Make answers one that is well made. -/
namespace Go.Proofs.Ytclabjihjopclaa.Ax
open Go.RowKit
set_option linter.unusedVariables false
set_option linter.unusedSimpArgs false
structure WFI (n : Int) (i : Ins) : Prop where
  kind : 1 ≤ i.kind ∧ i.kind ≤ 11
  op : 0 ≤ i.op ∧ i.op ≤ 10
  d : 0 ≤ i.d ∧ i.d < 4
  aN : 0 ≤ i.aN ∧ i.aN < 4
  bN : 0 ≤ i.bN ∧ i.bN < 4
  target : 0 ≤ i.target ∧ i.target ≤ n
def rdLI : List A → List Int × Int
  | [.c (.int _ i), .c (.rptr [.sl r])] => (listOf Int r, i)
  | _ => ([], 0)
def kS (l : List Int) (i : Int) : Int := if i < l.length then rd l i else i
def c_mkk : FT (List Int × Int) := ⟨71, fun x => [ai x.2, .c (.rptr [.sl (rowsOn x.1)])], rdLI, fun x => 0 ≤ x.2, fun x => ri (kS x.1 x.2), false, fun x => by simp [ai, rdLI]⟩
noncomputable def a_mkk : FnA := (fnA Try.prog Try.f71 2 []).getD ⟨0, .skip, [], []⟩
def s_mkk : Sp := spT []
theorem s_mkk_sound : s_mkk.sound Try.prog := spT_sound fun e he => by cases he
set_option maxRecDepth 100000 in
theorem t_mkk (l : List Int) (i : Int) : a_mkk.start s_mkk 400 [ai i, .c (.rptr [.sl (rowsOn l)])] =
(VC.need (okSh [Kd.sl] [D.sl (rowsOn l)])
(VC.br (decide (i < (↑(List.length (asRows (D.sl (rowsOn l)))) : Int)))
 (VC.need (okSh [Kd.sl] [D.sl (rowsOn l)])
 (VC.need ((0 : Int) ≤ i ∧ i < (↑(List.length (asRows (D.sl (rowsOn l)))) : Int) ∧ List.length (rowAt (asRows (D.sl (rowsOn l))) (Int.toNat i)) = (1 : Nat))
 (VC.need (okSh [Kd.int IntKind.i64] (rowAt (asRows (D.sl (rowsOn l))) (Int.toNat i)))
 (VC.ret (some (RR.c (Rc.d (D.int IntKind.i64 (asInt (List.getD (rowAt (asRows (D.sl (rowsOn l))) (Int.toNat i)) (0 : Nat) D.nilp))))))))))
 (VC.ret (some (RR.c (Rc.d (D.int IntKind.i64 i))))))) := by kernel_rfl
theorem c_mkk_good : c_mkk.fe.Good Try.prog := by
  refine FT.good c_mkk ⟨Try.f71, by kernel_rfl, by decide +kernel, by kernel_rfl⟩ (fun ⟨l, i⟩ => by first | rfl | simp [c_mkk, rrRef, rnewI, rnewE, rstab, rplaces, ri, rb, rib, Sta.fresh]) fun ⟨l, i⟩ hp => ?_
  refine acalls_le s_mkk_sound (fn := Try.f71) (a := a_mkk) (nargs := 2) (tbl := []) (by kernel_rfl) (by kernel_rfl) rfl (m := 400) ?_
  show VC.holds _ _ _ (a_mkk.start s_mkk 400 [ai i, .c (.rptr [.sl (rowsOn l)])])
  rw [t_mkk]
  try simp only [asRows_sl, asInt_int, asBool_bool, asStr_str, listOf_rowsOn, List.drop_zero, Prg.eta, Sta.eta, rowsOn_length, getD_drop, Nat.reduceAdd, rd_int, rd_PMem_name, rd_PMem_secret, rd_PMem_n, rd_PLabel_name, rd_PLabel_at_, rd_Ins_kind, rd_Ins_op, rd_Ins_d, rd_Ins_aR, rd_Ins_aN, rd_Ins_bR, rd_Ins_bN, rd_Ins_name, rd_Ins_target, rd_Ent_pc, rd_Ent_val, rd_Ent_addr, rd_Ent_fro, rd_Ent_next, rd_Ent_done, rd_Ent_known, rd_Ent_fault, rd_Place_reg, rd_Place_n, rd_Place_secret, rd_Obs_kind, rd_Obs_at_, rd_Dir_kind, rd_Dir_n]
  try simp only [c_mkk] at hp
  refine ⟨rfl, ?_⟩
  refine br_dec (fun h => ?_) (fun h => ?_)
  · refine ⟨rfl, idx_ok _ _ _ rfl hp h, okSh_ok _ _ _ (fun _ => rfl) hp h, ret_eq ?_⟩
    simp only [c_mkk, kS, if_pos h]
    rfl
  · refine ret_eq ?_
    simp only [c_mkk, kS, if_neg h]
    rfl
def valM (n : Int) : Bool × Int := (!(bits .and .i64 n 4 == 0), bits .and .i64 n 3)
def c_lval : FT Int := ⟨113, fun n => [ai n], rdI1, fun _ => True, fun n => .agg [.d (.bool (valM n).1), .d (.int .i64 (valM n).2)], false, fun _ => rfl⟩
noncomputable def a_lval : FnA := (fnA Try.prog Try.f113 1 []).getD ⟨0, .skip, [], []⟩
def s_lval : Sp := spT []
theorem s_lval_sound : s_lval.sound Try.prog := spT_sound fun e he => by cases he
set_option maxRecDepth 100000 in
theorem t_lval (n : Int) : a_lval.start s_lval 400 [ai n] =
(VC.br (bits BinOp.and IntKind.i64 n (4 : Int) == (0 : Int))
 (VC.ret (some (RR.agg [Rc.d (D.bool false), Rc.d (D.int IntKind.i64 (bits BinOp.and IntKind.i64 n (3 : Int)))])))
 (VC.ret (some (RR.agg [Rc.d (D.bool true), Rc.d (D.int IntKind.i64 (bits BinOp.and IntKind.i64 n (3 : Int)))])))) := by kernel_rfl
theorem c_lval_good : c_lval.fe.Good Try.prog := by
  refine FT.good c_lval ⟨Try.f113, by kernel_rfl, by decide +kernel, by kernel_rfl⟩ (fun n => by first | rfl | simp [c_lval, rrRef, rnewI, rnewE, rstab, rplaces, ri, rb, rib, Sta.fresh]) fun n hp => ?_
  refine acalls_le s_lval_sound (fn := Try.f113) (a := a_lval) (nargs := 1) (tbl := []) (by kernel_rfl) (by kernel_rfl) rfl (m := 400) ?_
  show VC.holds _ _ _ (a_lval.start s_lval 400 [ai n])
  rw [t_lval]
  try simp only [asRows_sl, asInt_int, asBool_bool, asStr_str, listOf_rowsOn, List.drop_zero, Prg.eta, Sta.eta, rowsOn_length, getD_drop, Nat.reduceAdd, rd_int, rd_PMem_name, rd_PMem_secret, rd_PMem_n, rd_PLabel_name, rd_PLabel_at_, rd_Ins_kind, rd_Ins_op, rd_Ins_d, rd_Ins_aR, rd_Ins_aN, rd_Ins_bR, rd_Ins_bN, rd_Ins_name, rd_Ins_target, rd_Ent_pc, rd_Ent_val, rd_Ent_addr, rd_Ent_fro, rd_Ent_next, rd_Ent_done, rd_Ent_known, rd_Ent_fault, rd_Place_reg, rd_Place_n, rd_Place_secret, rd_Obs_kind, rd_Obs_at_, rd_Dir_kind, rd_Dir_n]
  try simp only [c_lval] at hp
  refine br_holds (fun h => ?_) (fun h => ?_)
  · refine ret_eq ?_
    simp only [c_lval, valM, h]
    rfl
  · refine ret_eq ?_
    simp only [c_lval, valM, h]
    rfl
noncomputable def insM (x n : Int) : Ins := pick fun i => WFI n i ∧ ACalls Try.prog 73 [ai x, ai n] (.agg ((row i).map .d))
noncomputable def c_lins : FT (Int × Int) := ⟨73, fun x => [ai x.1, ai x.2], rdI2, fun x => 1 ≤ x.2 ∧ x.2 ≤ 1000, fun x => .agg ((row (insM x.1 x.2)).map .d), false, fun _ => rfl⟩
theorem tabK : ∀ i : Nat, i < 18 → (1 ≤ asInt (List.getD (rowAt [[D.int IntKind.i64 (1 : Int)], [D.int IntKind.i64 (1 : Int)], [D.int IntKind.i64 (2 : Int)], [D.int IntKind.i64 (2 : Int)], [D.int IntKind.i64 (2 : Int)], [D.int IntKind.i64 (3 : Int)], [D.int IntKind.i64 (3 : Int)], [D.int IntKind.i64 (4 : Int)], [D.int IntKind.i64 (5 : Int)], [D.int IntKind.i64 (5 : Int)], [D.int IntKind.i64 (5 : Int)], [D.int IntKind.i64 (6 : Int)], [D.int IntKind.i64 (7 : Int)], [D.int IntKind.i64 (8 : Int)], [D.int IntKind.i64 (9 : Int)], [D.int IntKind.i64 (10 : Int)], [D.int IntKind.i64 (11 : Int)], [D.int IntKind.i64 (1 : Int)]] i) 0 D.nilp) ∧ asInt (List.getD (rowAt [[D.int IntKind.i64 (1 : Int)], [D.int IntKind.i64 (1 : Int)], [D.int IntKind.i64 (2 : Int)], [D.int IntKind.i64 (2 : Int)], [D.int IntKind.i64 (2 : Int)], [D.int IntKind.i64 (3 : Int)], [D.int IntKind.i64 (3 : Int)], [D.int IntKind.i64 (4 : Int)], [D.int IntKind.i64 (5 : Int)], [D.int IntKind.i64 (5 : Int)], [D.int IntKind.i64 (5 : Int)], [D.int IntKind.i64 (6 : Int)], [D.int IntKind.i64 (7 : Int)], [D.int IntKind.i64 (8 : Int)], [D.int IntKind.i64 (9 : Int)], [D.int IntKind.i64 (10 : Int)], [D.int IntKind.i64 (11 : Int)], [D.int IntKind.i64 (1 : Int)]] i) 0 D.nilp) ≤ 11) ∧ (rowAt [[D.int IntKind.i64 (1 : Int)], [D.int IntKind.i64 (1 : Int)], [D.int IntKind.i64 (2 : Int)], [D.int IntKind.i64 (2 : Int)], [D.int IntKind.i64 (2 : Int)], [D.int IntKind.i64 (3 : Int)], [D.int IntKind.i64 (3 : Int)], [D.int IntKind.i64 (4 : Int)], [D.int IntKind.i64 (5 : Int)], [D.int IntKind.i64 (5 : Int)], [D.int IntKind.i64 (5 : Int)], [D.int IntKind.i64 (6 : Int)], [D.int IntKind.i64 (7 : Int)], [D.int IntKind.i64 (8 : Int)], [D.int IntKind.i64 (9 : Int)], [D.int IntKind.i64 (10 : Int)], [D.int IntKind.i64 (11 : Int)], [D.int IntKind.i64 (1 : Int)]] i).length = 1 ∧ okSh [Kd.int IntKind.i64] (rowAt [[D.int IntKind.i64 (1 : Int)], [D.int IntKind.i64 (1 : Int)], [D.int IntKind.i64 (2 : Int)], [D.int IntKind.i64 (2 : Int)], [D.int IntKind.i64 (2 : Int)], [D.int IntKind.i64 (3 : Int)], [D.int IntKind.i64 (3 : Int)], [D.int IntKind.i64 (4 : Int)], [D.int IntKind.i64 (5 : Int)], [D.int IntKind.i64 (5 : Int)], [D.int IntKind.i64 (5 : Int)], [D.int IntKind.i64 (6 : Int)], [D.int IntKind.i64 (7 : Int)], [D.int IntKind.i64 (8 : Int)], [D.int IntKind.i64 (9 : Int)], [D.int IntKind.i64 (10 : Int)], [D.int IntKind.i64 (11 : Int)], [D.int IntKind.i64 (1 : Int)]] i) := by
  intro i hi
  have : i = 0 ∨ i = 1 ∨ i = 2 ∨ i = 3 ∨ i = 4 ∨ i = 5 ∨ i = 6 ∨ i = 7 ∨ i = 8 ∨ i = 9 ∨ i = 10 ∨ i = 11 ∨ i = 12 ∨ i = 13 ∨ i = 14 ∨ i = 15 ∨ i = 16 ∨ i = 17 := by omega
  rcases this with h | h | h | h | h | h | h | h | h | h | h | h | h | h | h | h | h | h <;> (subst h; exact ⟨by decide, rfl, rfl⟩)
theorem tabO : ∀ i : Nat, i < 4 → (0 ≤ asInt (List.getD (rowAt [[D.int IntKind.i64 (9 : Int)], [D.int IntKind.i64 (10 : Int)], [D.int IntKind.i64 (3 : Int)], [D.int IntKind.i64 (2 : Int)]] i) 0 D.nilp) ∧ asInt (List.getD (rowAt [[D.int IntKind.i64 (9 : Int)], [D.int IntKind.i64 (10 : Int)], [D.int IntKind.i64 (3 : Int)], [D.int IntKind.i64 (2 : Int)]] i) 0 D.nilp) ≤ 10) ∧ (rowAt [[D.int IntKind.i64 (9 : Int)], [D.int IntKind.i64 (10 : Int)], [D.int IntKind.i64 (3 : Int)], [D.int IntKind.i64 (2 : Int)]] i).length = 1 ∧ okSh [Kd.int IntKind.i64] (rowAt [[D.int IntKind.i64 (9 : Int)], [D.int IntKind.i64 (10 : Int)], [D.int IntKind.i64 (3 : Int)], [D.int IntKind.i64 (2 : Int)]] i) := by
  intro i hi
  have : i = 0 ∨ i = 1 ∨ i = 2 ∨ i = 3 := by omega
  rcases this with h | h | h | h <;> (subst h; exact ⟨by decide, rfl, rfl⟩)
theorem tmod255 (y k : Int) : Int.tmod (bits .and .i64 y 255) k = (y % 256) % k := by
  rw [and255, Int.tmod_eq_emod_of_nonneg (by omega)]
noncomputable def a_lins : FnA := (fnA Try.prog Try.f73 2 []).getD ⟨0, .skip, [], []⟩
def s_lins : Sp := spT [c_lval.fe]
theorem s_lins_sound : s_lins.sound Try.prog := spT_sound fun e he => by
  simp only [List.mem_cons, List.not_mem_nil, or_false] at he
  rcases he with rfl
  · exact c_lval_good
set_option maxRecDepth 100000 in
theorem t_lins (x n : Int) : a_lins.start s_lins 400 [ai x, ai n] =
(VC.need ((18 : Int) ≠ (0 : Int))
(VC.need ((0 : Int) ≤ Int.tmod (bits BinOp.and IntKind.i64 x (255 : Int)) (18 : Int) ∧ Int.tmod (bits BinOp.and IntKind.i64 x (255 : Int)) (18 : Int) < (18 : Int))
(VC.need (Int.toNat (Int.tmod (bits BinOp.and IntKind.i64 x (255 : Int)) (18 : Int)) < (18 : Nat) ∧ List.length (rowAt [[D.int IntKind.i64 (1 : Int)], [D.int IntKind.i64 (1 : Int)], [D.int IntKind.i64 (2 : Int)], [D.int IntKind.i64 (2 : Int)], [D.int IntKind.i64 (2 : Int)], [D.int IntKind.i64 (3 : Int)], [D.int IntKind.i64 (3 : Int)], [D.int IntKind.i64 (4 : Int)], [D.int IntKind.i64 (5 : Int)], [D.int IntKind.i64 (5 : Int)], [D.int IntKind.i64 (5 : Int)], [D.int IntKind.i64 (6 : Int)], [D.int IntKind.i64 (7 : Int)], [D.int IntKind.i64 (8 : Int)], [D.int IntKind.i64 (9 : Int)], [D.int IntKind.i64 (10 : Int)], [D.int IntKind.i64 (11 : Int)], [D.int IntKind.i64 (1 : Int)]] (Int.toNat (Int.tmod (bits BinOp.and IntKind.i64 x (255 : Int)) (18 : Int)))) = (1 : Nat) ∧ okSh [Kd.int IntKind.i64] (List.drop (0 : Nat) (rowAt [[D.int IntKind.i64 (1 : Int)], [D.int IntKind.i64 (1 : Int)], [D.int IntKind.i64 (2 : Int)], [D.int IntKind.i64 (2 : Int)], [D.int IntKind.i64 (2 : Int)], [D.int IntKind.i64 (3 : Int)], [D.int IntKind.i64 (3 : Int)], [D.int IntKind.i64 (4 : Int)], [D.int IntKind.i64 (5 : Int)], [D.int IntKind.i64 (5 : Int)], [D.int IntKind.i64 (5 : Int)], [D.int IntKind.i64 (6 : Int)], [D.int IntKind.i64 (7 : Int)], [D.int IntKind.i64 (8 : Int)], [D.int IntKind.i64 (9 : Int)], [D.int IntKind.i64 (10 : Int)], [D.int IntKind.i64 (11 : Int)], [D.int IntKind.i64 (1 : Int)]] (Int.toNat (Int.tmod (bits BinOp.and IntKind.i64 x (255 : Int)) (18 : Int))))))
(VC.need ((0 : Int) ≤ (8 : Int))
(VC.need (PreOk c_lval (Int.fdiv x (256 : Int)) [A.c (D.int IntKind.i64 (Int.fdiv x (256 : Int)))])
(VC.need ((0 : Int) ≤ (11 : Int))
(VC.need (PreOk c_lval (Int.fdiv x (2048 : Int)) [A.c (D.int IntKind.i64 (Int.fdiv x (2048 : Int)))])
(VC.br (asInt (List.getD (List.drop (0 : Nat) (rowAt [[D.int IntKind.i64 (1 : Int)], [D.int IntKind.i64 (1 : Int)], [D.int IntKind.i64 (2 : Int)], [D.int IntKind.i64 (2 : Int)], [D.int IntKind.i64 (2 : Int)], [D.int IntKind.i64 (3 : Int)], [D.int IntKind.i64 (3 : Int)], [D.int IntKind.i64 (4 : Int)], [D.int IntKind.i64 (5 : Int)], [D.int IntKind.i64 (5 : Int)], [D.int IntKind.i64 (5 : Int)], [D.int IntKind.i64 (6 : Int)], [D.int IntKind.i64 (7 : Int)], [D.int IntKind.i64 (8 : Int)], [D.int IntKind.i64 (9 : Int)], [D.int IntKind.i64 (10 : Int)], [D.int IntKind.i64 (11 : Int)], [D.int IntKind.i64 (1 : Int)]] (Int.toNat (Int.tmod (bits BinOp.and IntKind.i64 x (255 : Int)) (18 : Int))))) (0 : Nat) D.nilp) == (1 : Int))
 (VC.need ((0 : Int) ≤ (16 : Int))
 (VC.need ((10 : Int) ≠ (0 : Int))
 (VC.need ((0 : Int) ≤ (14 : Int))
 (VC.ret (some (RR.agg [Rc.d (D.int IntKind.i64 (asInt (List.getD (List.drop (0 : Nat) (rowAt [[D.int IntKind.i64 (1 : Int)], [D.int IntKind.i64 (1 : Int)], [D.int IntKind.i64 (2 : Int)], [D.int IntKind.i64 (2 : Int)], [D.int IntKind.i64 (2 : Int)], [D.int IntKind.i64 (3 : Int)], [D.int IntKind.i64 (3 : Int)], [D.int IntKind.i64 (4 : Int)], [D.int IntKind.i64 (5 : Int)], [D.int IntKind.i64 (5 : Int)], [D.int IntKind.i64 (5 : Int)], [D.int IntKind.i64 (6 : Int)], [D.int IntKind.i64 (7 : Int)], [D.int IntKind.i64 (8 : Int)], [D.int IntKind.i64 (9 : Int)], [D.int IntKind.i64 (10 : Int)], [D.int IntKind.i64 (11 : Int)], [D.int IntKind.i64 (1 : Int)]] (Int.toNat (Int.tmod (bits BinOp.and IntKind.i64 x (255 : Int)) (18 : Int))))) (0 : Nat) D.nilp))), Rc.d (D.int IntKind.i64 (IntKind.wrap IntKind.i64 (Int.tmod (bits BinOp.and IntKind.i64 (Int.fdiv x (65536 : Int)) (255 : Int)) (10 : Int) + (1 : Int)))), Rc.d (D.int IntKind.i64 (bits BinOp.and IntKind.i64 (Int.fdiv x (16384 : Int)) (3 : Int))), Rc.d (D.bool !bits BinOp.and IntKind.i64 (Int.fdiv x (256 : Int)) (4 : Int) == (0 : Int)), Rc.d (D.int IntKind.i64 (bits BinOp.and IntKind.i64 (Int.fdiv x (256 : Int)) (3 : Int))), Rc.d (D.bool !bits BinOp.and IntKind.i64 (Int.fdiv x (2048 : Int)) (4 : Int) == (0 : Int)), Rc.d (D.int IntKind.i64 (bits BinOp.and IntKind.i64 (Int.fdiv x (2048 : Int)) (3 : Int))), Rc.d (D.str { data := #[] }), Rc.d (D.int IntKind.i64 (0 : Int))]))))))
 (VC.br (asInt (List.getD (List.drop (0 : Nat) (rowAt [[D.int IntKind.i64 (1 : Int)], [D.int IntKind.i64 (1 : Int)], [D.int IntKind.i64 (2 : Int)], [D.int IntKind.i64 (2 : Int)], [D.int IntKind.i64 (2 : Int)], [D.int IntKind.i64 (3 : Int)], [D.int IntKind.i64 (3 : Int)], [D.int IntKind.i64 (4 : Int)], [D.int IntKind.i64 (5 : Int)], [D.int IntKind.i64 (5 : Int)], [D.int IntKind.i64 (5 : Int)], [D.int IntKind.i64 (6 : Int)], [D.int IntKind.i64 (7 : Int)], [D.int IntKind.i64 (8 : Int)], [D.int IntKind.i64 (9 : Int)], [D.int IntKind.i64 (10 : Int)], [D.int IntKind.i64 (11 : Int)], [D.int IntKind.i64 (1 : Int)]] (Int.toNat (Int.tmod (bits BinOp.and IntKind.i64 x (255 : Int)) (18 : Int))))) (0 : Nat) D.nilp) == (2 : Int))
  (VC.need ((0 : Int) ≤ (14 : Int))
  (VC.ret (some (RR.agg [Rc.d (D.int IntKind.i64 (asInt (List.getD (List.drop (0 : Nat) (rowAt [[D.int IntKind.i64 (1 : Int)], [D.int IntKind.i64 (1 : Int)], [D.int IntKind.i64 (2 : Int)], [D.int IntKind.i64 (2 : Int)], [D.int IntKind.i64 (2 : Int)], [D.int IntKind.i64 (3 : Int)], [D.int IntKind.i64 (3 : Int)], [D.int IntKind.i64 (4 : Int)], [D.int IntKind.i64 (5 : Int)], [D.int IntKind.i64 (5 : Int)], [D.int IntKind.i64 (5 : Int)], [D.int IntKind.i64 (6 : Int)], [D.int IntKind.i64 (7 : Int)], [D.int IntKind.i64 (8 : Int)], [D.int IntKind.i64 (9 : Int)], [D.int IntKind.i64 (10 : Int)], [D.int IntKind.i64 (11 : Int)], [D.int IntKind.i64 (1 : Int)]] (Int.toNat (Int.tmod (bits BinOp.and IntKind.i64 x (255 : Int)) (18 : Int))))) (0 : Nat) D.nilp))), Rc.d (D.int IntKind.i64 (0 : Int)), Rc.d (D.int IntKind.i64 (bits BinOp.and IntKind.i64 (Int.fdiv x (16384 : Int)) (3 : Int))), Rc.d (D.bool !bits BinOp.and IntKind.i64 (Int.fdiv x (256 : Int)) (4 : Int) == (0 : Int)), Rc.d (D.int IntKind.i64 (bits BinOp.and IntKind.i64 (Int.fdiv x (256 : Int)) (3 : Int))), Rc.d (D.bool !bits BinOp.and IntKind.i64 (Int.fdiv x (2048 : Int)) (4 : Int) == (0 : Int)), Rc.d (D.int IntKind.i64 (bits BinOp.and IntKind.i64 (Int.fdiv x (2048 : Int)) (3 : Int))), Rc.d (D.str { data := #[] }), Rc.d (D.int IntKind.i64 (0 : Int))]))))
  (VC.br (asInt (List.getD (List.drop (0 : Nat) (rowAt [[D.int IntKind.i64 (1 : Int)], [D.int IntKind.i64 (1 : Int)], [D.int IntKind.i64 (2 : Int)], [D.int IntKind.i64 (2 : Int)], [D.int IntKind.i64 (2 : Int)], [D.int IntKind.i64 (3 : Int)], [D.int IntKind.i64 (3 : Int)], [D.int IntKind.i64 (4 : Int)], [D.int IntKind.i64 (5 : Int)], [D.int IntKind.i64 (5 : Int)], [D.int IntKind.i64 (5 : Int)], [D.int IntKind.i64 (6 : Int)], [D.int IntKind.i64 (7 : Int)], [D.int IntKind.i64 (8 : Int)], [D.int IntKind.i64 (9 : Int)], [D.int IntKind.i64 (10 : Int)], [D.int IntKind.i64 (11 : Int)], [D.int IntKind.i64 (1 : Int)]] (Int.toNat (Int.tmod (bits BinOp.and IntKind.i64 x (255 : Int)) (18 : Int))))) (0 : Nat) D.nilp) == (3 : Int))
   (VC.need ((0 : Int) ≤ (14 : Int))
   (VC.ret (some (RR.agg [Rc.d (D.int IntKind.i64 (asInt (List.getD (List.drop (0 : Nat) (rowAt [[D.int IntKind.i64 (1 : Int)], [D.int IntKind.i64 (1 : Int)], [D.int IntKind.i64 (2 : Int)], [D.int IntKind.i64 (2 : Int)], [D.int IntKind.i64 (2 : Int)], [D.int IntKind.i64 (3 : Int)], [D.int IntKind.i64 (3 : Int)], [D.int IntKind.i64 (4 : Int)], [D.int IntKind.i64 (5 : Int)], [D.int IntKind.i64 (5 : Int)], [D.int IntKind.i64 (5 : Int)], [D.int IntKind.i64 (6 : Int)], [D.int IntKind.i64 (7 : Int)], [D.int IntKind.i64 (8 : Int)], [D.int IntKind.i64 (9 : Int)], [D.int IntKind.i64 (10 : Int)], [D.int IntKind.i64 (11 : Int)], [D.int IntKind.i64 (1 : Int)]] (Int.toNat (Int.tmod (bits BinOp.and IntKind.i64 x (255 : Int)) (18 : Int))))) (0 : Nat) D.nilp))), Rc.d (D.int IntKind.i64 (0 : Int)), Rc.d (D.int IntKind.i64 (bits BinOp.and IntKind.i64 (Int.fdiv x (16384 : Int)) (3 : Int))), Rc.d (D.bool !bits BinOp.and IntKind.i64 (Int.fdiv x (256 : Int)) (4 : Int) == (0 : Int)), Rc.d (D.int IntKind.i64 (bits BinOp.and IntKind.i64 (Int.fdiv x (256 : Int)) (3 : Int))), Rc.d (D.bool !bits BinOp.and IntKind.i64 (Int.fdiv x (2048 : Int)) (4 : Int) == (0 : Int)), Rc.d (D.int IntKind.i64 (bits BinOp.and IntKind.i64 (Int.fdiv x (2048 : Int)) (3 : Int))), Rc.d (D.str { data := #[] }), Rc.d (D.int IntKind.i64 (0 : Int))]))))
   (VC.br (asInt (List.getD (List.drop (0 : Nat) (rowAt [[D.int IntKind.i64 (1 : Int)], [D.int IntKind.i64 (1 : Int)], [D.int IntKind.i64 (2 : Int)], [D.int IntKind.i64 (2 : Int)], [D.int IntKind.i64 (2 : Int)], [D.int IntKind.i64 (3 : Int)], [D.int IntKind.i64 (3 : Int)], [D.int IntKind.i64 (4 : Int)], [D.int IntKind.i64 (5 : Int)], [D.int IntKind.i64 (5 : Int)], [D.int IntKind.i64 (5 : Int)], [D.int IntKind.i64 (6 : Int)], [D.int IntKind.i64 (7 : Int)], [D.int IntKind.i64 (8 : Int)], [D.int IntKind.i64 (9 : Int)], [D.int IntKind.i64 (10 : Int)], [D.int IntKind.i64 (11 : Int)], [D.int IntKind.i64 (1 : Int)]] (Int.toNat (Int.tmod (bits BinOp.and IntKind.i64 x (255 : Int)) (18 : Int))))) (0 : Nat) D.nilp) == (4 : Int))
    (VC.need ((0 : Int) ≤ (14 : Int))
    (VC.ret (some (RR.agg [Rc.d (D.int IntKind.i64 (asInt (List.getD (List.drop (0 : Nat) (rowAt [[D.int IntKind.i64 (1 : Int)], [D.int IntKind.i64 (1 : Int)], [D.int IntKind.i64 (2 : Int)], [D.int IntKind.i64 (2 : Int)], [D.int IntKind.i64 (2 : Int)], [D.int IntKind.i64 (3 : Int)], [D.int IntKind.i64 (3 : Int)], [D.int IntKind.i64 (4 : Int)], [D.int IntKind.i64 (5 : Int)], [D.int IntKind.i64 (5 : Int)], [D.int IntKind.i64 (5 : Int)], [D.int IntKind.i64 (6 : Int)], [D.int IntKind.i64 (7 : Int)], [D.int IntKind.i64 (8 : Int)], [D.int IntKind.i64 (9 : Int)], [D.int IntKind.i64 (10 : Int)], [D.int IntKind.i64 (11 : Int)], [D.int IntKind.i64 (1 : Int)]] (Int.toNat (Int.tmod (bits BinOp.and IntKind.i64 x (255 : Int)) (18 : Int))))) (0 : Nat) D.nilp))), Rc.d (D.int IntKind.i64 (0 : Int)), Rc.d (D.int IntKind.i64 (bits BinOp.and IntKind.i64 (Int.fdiv x (16384 : Int)) (3 : Int))), Rc.d (D.bool !bits BinOp.and IntKind.i64 (Int.fdiv x (256 : Int)) (4 : Int) == (0 : Int)), Rc.d (D.int IntKind.i64 (bits BinOp.and IntKind.i64 (Int.fdiv x (256 : Int)) (3 : Int))), Rc.d (D.bool !bits BinOp.and IntKind.i64 (Int.fdiv x (2048 : Int)) (4 : Int) == (0 : Int)), Rc.d (D.int IntKind.i64 (bits BinOp.and IntKind.i64 (Int.fdiv x (2048 : Int)) (3 : Int))), Rc.d (D.str { data := #[] }), Rc.d (D.int IntKind.i64 (0 : Int))]))))
    (VC.br (asInt (List.getD (List.drop (0 : Nat) (rowAt [[D.int IntKind.i64 (1 : Int)], [D.int IntKind.i64 (1 : Int)], [D.int IntKind.i64 (2 : Int)], [D.int IntKind.i64 (2 : Int)], [D.int IntKind.i64 (2 : Int)], [D.int IntKind.i64 (3 : Int)], [D.int IntKind.i64 (3 : Int)], [D.int IntKind.i64 (4 : Int)], [D.int IntKind.i64 (5 : Int)], [D.int IntKind.i64 (5 : Int)], [D.int IntKind.i64 (5 : Int)], [D.int IntKind.i64 (6 : Int)], [D.int IntKind.i64 (7 : Int)], [D.int IntKind.i64 (8 : Int)], [D.int IntKind.i64 (9 : Int)], [D.int IntKind.i64 (10 : Int)], [D.int IntKind.i64 (11 : Int)], [D.int IntKind.i64 (1 : Int)]] (Int.toNat (Int.tmod (bits BinOp.and IntKind.i64 x (255 : Int)) (18 : Int))))) (0 : Nat) D.nilp) == (5 : Int))
     (VC.need ((0 : Int) ≤ (16 : Int))
     (VC.need ((0 : Int) ≤ bits BinOp.and IntKind.i64 (Int.fdiv x (65536 : Int)) (3 : Int) ∧ bits BinOp.and IntKind.i64 (Int.fdiv x (65536 : Int)) (3 : Int) < (4 : Int))
     (VC.need (Int.toNat (bits BinOp.and IntKind.i64 (Int.fdiv x (65536 : Int)) (3 : Int)) < (4 : Nat) ∧ List.length (rowAt [[D.int IntKind.i64 (9 : Int)], [D.int IntKind.i64 (10 : Int)], [D.int IntKind.i64 (3 : Int)], [D.int IntKind.i64 (2 : Int)]] (Int.toNat (bits BinOp.and IntKind.i64 (Int.fdiv x (65536 : Int)) (3 : Int)))) = (1 : Nat) ∧ okSh [Kd.int IntKind.i64] (List.drop (0 : Nat) (rowAt [[D.int IntKind.i64 (9 : Int)], [D.int IntKind.i64 (10 : Int)], [D.int IntKind.i64 (3 : Int)], [D.int IntKind.i64 (2 : Int)]] (Int.toNat (bits BinOp.and IntKind.i64 (Int.fdiv x (65536 : Int)) (3 : Int))))))
     (VC.need ((0 : Int) ≤ (18 : Int))
     (VC.need (IntKind.wrap IntKind.i64 (n + (1 : Int)) ≠ (0 : Int))
     (VC.ret (some (RR.agg [Rc.d (D.int IntKind.i64 (asInt (List.getD (List.drop (0 : Nat) (rowAt [[D.int IntKind.i64 (1 : Int)], [D.int IntKind.i64 (1 : Int)], [D.int IntKind.i64 (2 : Int)], [D.int IntKind.i64 (2 : Int)], [D.int IntKind.i64 (2 : Int)], [D.int IntKind.i64 (3 : Int)], [D.int IntKind.i64 (3 : Int)], [D.int IntKind.i64 (4 : Int)], [D.int IntKind.i64 (5 : Int)], [D.int IntKind.i64 (5 : Int)], [D.int IntKind.i64 (5 : Int)], [D.int IntKind.i64 (6 : Int)], [D.int IntKind.i64 (7 : Int)], [D.int IntKind.i64 (8 : Int)], [D.int IntKind.i64 (9 : Int)], [D.int IntKind.i64 (10 : Int)], [D.int IntKind.i64 (11 : Int)], [D.int IntKind.i64 (1 : Int)]] (Int.toNat (Int.tmod (bits BinOp.and IntKind.i64 x (255 : Int)) (18 : Int))))) (0 : Nat) D.nilp))), Rc.d (D.int IntKind.i64 (asInt (List.getD (List.drop (0 : Nat) (rowAt [[D.int IntKind.i64 (9 : Int)], [D.int IntKind.i64 (10 : Int)], [D.int IntKind.i64 (3 : Int)], [D.int IntKind.i64 (2 : Int)]] (Int.toNat (bits BinOp.and IntKind.i64 (Int.fdiv x (65536 : Int)) (3 : Int))))) (0 : Nat) D.nilp))), Rc.d (D.int IntKind.i64 (0 : Int)), Rc.d (D.bool !bits BinOp.and IntKind.i64 (Int.fdiv x (256 : Int)) (4 : Int) == (0 : Int)), Rc.d (D.int IntKind.i64 (bits BinOp.and IntKind.i64 (Int.fdiv x (256 : Int)) (3 : Int))), Rc.d (D.bool !bits BinOp.and IntKind.i64 (Int.fdiv x (2048 : Int)) (4 : Int) == (0 : Int)), Rc.d (D.int IntKind.i64 (bits BinOp.and IntKind.i64 (Int.fdiv x (2048 : Int)) (3 : Int))), Rc.d (D.str { data := #[] }), Rc.d (D.int IntKind.i64 (Int.tmod (bits BinOp.and IntKind.i64 (Int.fdiv x (262144 : Int)) (255 : Int)) (IntKind.wrap IntKind.i64 (n + (1 : Int)))))]))))))))
     (VC.br (asInt (List.getD (List.drop (0 : Nat) (rowAt [[D.int IntKind.i64 (1 : Int)], [D.int IntKind.i64 (1 : Int)], [D.int IntKind.i64 (2 : Int)], [D.int IntKind.i64 (2 : Int)], [D.int IntKind.i64 (2 : Int)], [D.int IntKind.i64 (3 : Int)], [D.int IntKind.i64 (3 : Int)], [D.int IntKind.i64 (4 : Int)], [D.int IntKind.i64 (5 : Int)], [D.int IntKind.i64 (5 : Int)], [D.int IntKind.i64 (5 : Int)], [D.int IntKind.i64 (6 : Int)], [D.int IntKind.i64 (7 : Int)], [D.int IntKind.i64 (8 : Int)], [D.int IntKind.i64 (9 : Int)], [D.int IntKind.i64 (10 : Int)], [D.int IntKind.i64 (11 : Int)], [D.int IntKind.i64 (1 : Int)]] (Int.toNat (Int.tmod (bits BinOp.and IntKind.i64 x (255 : Int)) (18 : Int))))) (0 : Nat) D.nilp) == (6 : Int))
      (VC.need ((0 : Int) ≤ (18 : Int))
      (VC.need (IntKind.wrap IntKind.i64 (n + (1 : Int)) ≠ (0 : Int))
      (VC.ret (some (RR.agg [Rc.d (D.int IntKind.i64 (asInt (List.getD (List.drop (0 : Nat) (rowAt [[D.int IntKind.i64 (1 : Int)], [D.int IntKind.i64 (1 : Int)], [D.int IntKind.i64 (2 : Int)], [D.int IntKind.i64 (2 : Int)], [D.int IntKind.i64 (2 : Int)], [D.int IntKind.i64 (3 : Int)], [D.int IntKind.i64 (3 : Int)], [D.int IntKind.i64 (4 : Int)], [D.int IntKind.i64 (5 : Int)], [D.int IntKind.i64 (5 : Int)], [D.int IntKind.i64 (5 : Int)], [D.int IntKind.i64 (6 : Int)], [D.int IntKind.i64 (7 : Int)], [D.int IntKind.i64 (8 : Int)], [D.int IntKind.i64 (9 : Int)], [D.int IntKind.i64 (10 : Int)], [D.int IntKind.i64 (11 : Int)], [D.int IntKind.i64 (1 : Int)]] (Int.toNat (Int.tmod (bits BinOp.and IntKind.i64 x (255 : Int)) (18 : Int))))) (0 : Nat) D.nilp))), Rc.d (D.int IntKind.i64 (0 : Int)), Rc.d (D.int IntKind.i64 (0 : Int)), Rc.d (D.bool false), Rc.d (D.int IntKind.i64 (0 : Int)), Rc.d (D.bool false), Rc.d (D.int IntKind.i64 (0 : Int)), Rc.d (D.str { data := #[] }), Rc.d (D.int IntKind.i64 (Int.tmod (bits BinOp.and IntKind.i64 (Int.fdiv x (262144 : Int)) (255 : Int)) (IntKind.wrap IntKind.i64 (n + (1 : Int)))))])))))
      (VC.br (asInt (List.getD (List.drop (0 : Nat) (rowAt [[D.int IntKind.i64 (1 : Int)], [D.int IntKind.i64 (1 : Int)], [D.int IntKind.i64 (2 : Int)], [D.int IntKind.i64 (2 : Int)], [D.int IntKind.i64 (2 : Int)], [D.int IntKind.i64 (3 : Int)], [D.int IntKind.i64 (3 : Int)], [D.int IntKind.i64 (4 : Int)], [D.int IntKind.i64 (5 : Int)], [D.int IntKind.i64 (5 : Int)], [D.int IntKind.i64 (5 : Int)], [D.int IntKind.i64 (6 : Int)], [D.int IntKind.i64 (7 : Int)], [D.int IntKind.i64 (8 : Int)], [D.int IntKind.i64 (9 : Int)], [D.int IntKind.i64 (10 : Int)], [D.int IntKind.i64 (11 : Int)], [D.int IntKind.i64 (1 : Int)]] (Int.toNat (Int.tmod (bits BinOp.and IntKind.i64 x (255 : Int)) (18 : Int))))) (0 : Nat) D.nilp) == (8 : Int))
       (VC.need ((0 : Int) ≤ (18 : Int))
       (VC.need (IntKind.wrap IntKind.i64 (n + (1 : Int)) ≠ (0 : Int))
       (VC.ret (some (RR.agg [Rc.d (D.int IntKind.i64 (asInt (List.getD (List.drop (0 : Nat) (rowAt [[D.int IntKind.i64 (1 : Int)], [D.int IntKind.i64 (1 : Int)], [D.int IntKind.i64 (2 : Int)], [D.int IntKind.i64 (2 : Int)], [D.int IntKind.i64 (2 : Int)], [D.int IntKind.i64 (3 : Int)], [D.int IntKind.i64 (3 : Int)], [D.int IntKind.i64 (4 : Int)], [D.int IntKind.i64 (5 : Int)], [D.int IntKind.i64 (5 : Int)], [D.int IntKind.i64 (5 : Int)], [D.int IntKind.i64 (6 : Int)], [D.int IntKind.i64 (7 : Int)], [D.int IntKind.i64 (8 : Int)], [D.int IntKind.i64 (9 : Int)], [D.int IntKind.i64 (10 : Int)], [D.int IntKind.i64 (11 : Int)], [D.int IntKind.i64 (1 : Int)]] (Int.toNat (Int.tmod (bits BinOp.and IntKind.i64 x (255 : Int)) (18 : Int))))) (0 : Nat) D.nilp))), Rc.d (D.int IntKind.i64 (0 : Int)), Rc.d (D.int IntKind.i64 (0 : Int)), Rc.d (D.bool false), Rc.d (D.int IntKind.i64 (0 : Int)), Rc.d (D.bool false), Rc.d (D.int IntKind.i64 (0 : Int)), Rc.d (D.str { data := #[] }), Rc.d (D.int IntKind.i64 (Int.tmod (bits BinOp.and IntKind.i64 (Int.fdiv x (262144 : Int)) (255 : Int)) (IntKind.wrap IntKind.i64 (n + (1 : Int)))))])))))
       (VC.br (asInt (List.getD (List.drop (0 : Nat) (rowAt [[D.int IntKind.i64 (1 : Int)], [D.int IntKind.i64 (1 : Int)], [D.int IntKind.i64 (2 : Int)], [D.int IntKind.i64 (2 : Int)], [D.int IntKind.i64 (2 : Int)], [D.int IntKind.i64 (3 : Int)], [D.int IntKind.i64 (3 : Int)], [D.int IntKind.i64 (4 : Int)], [D.int IntKind.i64 (5 : Int)], [D.int IntKind.i64 (5 : Int)], [D.int IntKind.i64 (5 : Int)], [D.int IntKind.i64 (6 : Int)], [D.int IntKind.i64 (7 : Int)], [D.int IntKind.i64 (8 : Int)], [D.int IntKind.i64 (9 : Int)], [D.int IntKind.i64 (10 : Int)], [D.int IntKind.i64 (11 : Int)], [D.int IntKind.i64 (1 : Int)]] (Int.toNat (Int.tmod (bits BinOp.and IntKind.i64 x (255 : Int)) (18 : Int))))) (0 : Nat) D.nilp) == (7 : Int))
        (VC.ret (some (RR.agg [Rc.d (D.int IntKind.i64 (asInt (List.getD (List.drop (0 : Nat) (rowAt [[D.int IntKind.i64 (1 : Int)], [D.int IntKind.i64 (1 : Int)], [D.int IntKind.i64 (2 : Int)], [D.int IntKind.i64 (2 : Int)], [D.int IntKind.i64 (2 : Int)], [D.int IntKind.i64 (3 : Int)], [D.int IntKind.i64 (3 : Int)], [D.int IntKind.i64 (4 : Int)], [D.int IntKind.i64 (5 : Int)], [D.int IntKind.i64 (5 : Int)], [D.int IntKind.i64 (5 : Int)], [D.int IntKind.i64 (6 : Int)], [D.int IntKind.i64 (7 : Int)], [D.int IntKind.i64 (8 : Int)], [D.int IntKind.i64 (9 : Int)], [D.int IntKind.i64 (10 : Int)], [D.int IntKind.i64 (11 : Int)], [D.int IntKind.i64 (1 : Int)]] (Int.toNat (Int.tmod (bits BinOp.and IntKind.i64 x (255 : Int)) (18 : Int))))) (0 : Nat) D.nilp))), Rc.d (D.int IntKind.i64 (0 : Int)), Rc.d (D.int IntKind.i64 (0 : Int)), Rc.d (D.bool !bits BinOp.and IntKind.i64 (Int.fdiv x (256 : Int)) (4 : Int) == (0 : Int)), Rc.d (D.int IntKind.i64 (bits BinOp.and IntKind.i64 (Int.fdiv x (256 : Int)) (3 : Int))), Rc.d (D.bool false), Rc.d (D.int IntKind.i64 (0 : Int)), Rc.d (D.str { data := #[] }), Rc.d (D.int IntKind.i64 (0 : Int))])))
        (VC.ret (some (RR.agg [Rc.d (D.int IntKind.i64 (asInt (List.getD (List.drop (0 : Nat) (rowAt [[D.int IntKind.i64 (1 : Int)], [D.int IntKind.i64 (1 : Int)], [D.int IntKind.i64 (2 : Int)], [D.int IntKind.i64 (2 : Int)], [D.int IntKind.i64 (2 : Int)], [D.int IntKind.i64 (3 : Int)], [D.int IntKind.i64 (3 : Int)], [D.int IntKind.i64 (4 : Int)], [D.int IntKind.i64 (5 : Int)], [D.int IntKind.i64 (5 : Int)], [D.int IntKind.i64 (5 : Int)], [D.int IntKind.i64 (6 : Int)], [D.int IntKind.i64 (7 : Int)], [D.int IntKind.i64 (8 : Int)], [D.int IntKind.i64 (9 : Int)], [D.int IntKind.i64 (10 : Int)], [D.int IntKind.i64 (11 : Int)], [D.int IntKind.i64 (1 : Int)]] (Int.toNat (Int.tmod (bits BinOp.and IntKind.i64 x (255 : Int)) (18 : Int))))) (0 : Nat) D.nilp))), Rc.d (D.int IntKind.i64 (0 : Int)), Rc.d (D.int IntKind.i64 (0 : Int)), Rc.d (D.bool false), Rc.d (D.int IntKind.i64 (0 : Int)), Rc.d (D.bool false), Rc.d (D.int IntKind.i64 (0 : Int)), Rc.d (D.str { data := #[] }), Rc.d (D.int IntKind.i64 (0 : Int))])))))))))))))))))) := by kernel_rfl
theorem x_lins (x n : Int) (h0 : 1 ≤ n ∧ n ≤ 1000) : ∃ r, (fun r => ∃ i : Ins, WFI n i ∧ r = .agg ((row i).map .d)) r ∧ ACalls Try.prog 73 [ai x, ai n] r := by
  refine acalls_some s_lins_sound (fn := Try.f73) (a := a_lins) (nargs := 2) (tbl := []) (by kernel_rfl) (by kernel_rfl) rfl (m := 400) ?_
  show VC.holds _ _ _ (a_lins.start s_lins 400 [ai x, ai n])
  rw [t_lins]
  try simp only [asRows_sl, asInt_int, asBool_bool, asStr_str, listOf_rowsOn, List.drop_zero, Prg.eta, Sta.eta, rowsOn_length, getD_drop, Nat.reduceAdd, rd_int, rd_PMem_name, rd_PMem_secret, rd_PMem_n, rd_PLabel_name, rd_PLabel_at_, rd_Ins_kind, rd_Ins_op, rd_Ins_d, rd_Ins_aR, rd_Ins_aN, rd_Ins_bR, rd_Ins_bN, rd_Ins_name, rd_Ins_target, rd_Ent_pc, rd_Ent_val, rd_Ent_addr, rd_Ent_fro, rd_Ent_next, rd_Ent_done, rd_Ent_known, rd_Ent_fault, rd_Place_reg, rd_Place_n, rd_Place_secret, rd_Obs_kind, rd_Obs_at_, rd_Dir_kind, rd_Dir_n]
  simp only [tmod255, and3, valM]
  rw [wrap_small (n + 1) (by omega) (by omega), wrap_small (Int.fdiv x 65536 % 256 % 10 + 1) (by omega) (by omega)]
  have hm : ∀ y : Int, 0 ≤ y % 256 % (n + 1) ∧ y % 256 % (n + 1) ≤ n := fun y => by
    have h1 := Int.emod_nonneg (y % 256) (show n + 1 ≠ 0 by omega)
    have h2 := Int.emod_lt_of_pos (y % 256) (show 0 < n + 1 by omega)
    omega
  have h1 := tabK (x % 256 % 18).toNat (by omega)
  have h2 := tabO (Int.fdiv x 65536 % 4).toNat (by omega)
  refine ⟨by decide, ⟨by omega, by omega⟩, ⟨by omega, h1.2.1, h1.2.2⟩, by decide, PreOk.mk trivial rfl, by decide, PreOk.mk trivial rfl, ?_⟩
  obtain ⟨h3, _⟩ := h1
  revert h3
  generalize asInt (List.getD (rowAt _ (x % 256 % 18).toNat) 0 D.nilp) = kd
  intro h3
  obtain ⟨h2a, h2⟩ := h2
  revert h2a
  generalize asInt (List.getD (rowAt _ (Int.fdiv x 65536 % 4).toNat) 0 D.nilp) = ko
  intro h2a
  have h5 := hm (Int.fdiv x 262144)
  repeat' first
    | refine br_not ?_
    | refine br_dec (fun _ => ?_) (fun _ => ?_)
    | refine br_beq (fun _ => ?_) (fun _ => ?_)
    | refine br_bne (fun _ => ?_) (fun _ => ?_)
    | refine br_holds (fun _ => ?_) (fun _ => ?_)
    | refine ⟨PreOk.mk ?_ rfl, ?_⟩
    | refine ⟨idx_ok _ _ _ rfl (by omega) (by omega), ?_⟩
    | refine ⟨okSh_ok _ _ _ (fun _ => rfl) (by omega) (by omega), ?_⟩
    | refine ⟨okSh_okD _ _ _ _ (fun _ => rfl) (by omega) (by omega), ?_⟩
    | refine ⟨aload_ok _ _ rfl (fun _ => rfl) (by omega) (by omega), ?_⟩
    | refine ⟨aload_okD _ _ _ rfl (fun _ => rfl) (by omega) (by omega), ?_⟩
    | refine ⟨astore_ok (by assumption) rfl (by omega) (by omega) (by decide), ?_⟩
    | refine ⟨app_ok (by assumption) rfl rfl (by simp only [List.length_cons, List.length_nil]; omega), ?_⟩
    | refine need_holds ?_ fun _ => ?_
    | refine all_holds fun y hy => ?_
    | refine ret_eq ?_
  all_goals try exact ⟨by omega, h2.1, h2.2⟩
  all_goals try omega
  all_goals
    refine ⟨⟨_, _, _, _, _, _, _, _, _⟩, ?_, rfl⟩
    exact ⟨by dsimp only; omega, by dsimp only; omega, by dsimp only; omega, by dsimp only; omega, by dsimp only; omega, by dsimp only; omega⟩
theorem insM_spec (x n : Int) (h : 1 ≤ n ∧ n ≤ 1000) : WFI n (insM x n) ∧ ACalls Try.prog 73 [ai x, ai n] (.agg ((row (insM x n)).map .d)) := by
  obtain ⟨r, ⟨i, h1, rfl⟩, h2⟩ := x_lins x n h
  exact pick_spec (Q := fun i => WFI n i ∧ ACalls Try.prog 73 [ai x, ai n] (.agg ((row i).map .d))) ⟨i, h1, h2⟩
theorem c_lins_good : c_lins.fe.Good Try.prog := FT.good c_lins ⟨Try.f73, by kernel_rfl, by decide +kernel, by kernel_rfl⟩ (fun _ => rfl) fun x hx => (insM_spec x.1 x.2 hx).2
def digS (n : Int) : ByteArray := if n = 0 then ⟨#[48]⟩ else if n = 1 then ⟨#[49]⟩ else if n = 2 then ⟨#[50]⟩ else if n = 3 then ⟨#[51]⟩ else if n = 4 then ⟨#[52]⟩ else if n = 5 then ⟨#[53]⟩ else if n = 6 then ⟨#[54]⟩ else if n = 7 then ⟨#[55]⟩ else if n = 8 then ⟨#[56]⟩ else ⟨#[57]⟩
theorem dig_calls (n : Int) (h : 0 ≤ n ∧ n ≤ 9) : ACalls Try.prog 72 [ai n] (.c (.d (.str (digS n)))) := by
  have : n = 0 ∨ n = 1 ∨ n = 2 ∨ n = 3 ∨ n = 4 ∨ n = 5 ∨ n = 6 ∨ n = 7 ∨ n = 8 ∨ n = 9 := by omega
  rcases this with h | h | h | h | h | h | h | h | h | h <;> (subst h; exact (axN_sound extE_sound (n := 20) 2 (by kernel_rfl)).1)
def c_dig1 : FT Int := ⟨72, fun n => [ai n], rdI1, fun n => 0 ≤ n ∧ n ≤ 9, fun n => .c (.d (.str (digS n))), false, fun _ => rfl⟩
theorem c_dig1_good : c_dig1.fe.Good Try.prog := FT.good c_dig1 ⟨Try.f72, by kernel_rfl, by decide +kernel, by kernel_rfl⟩ (fun _ => rfl) fun n hn => dig_calls n hn
end Go.Proofs.Ytclabjihjopclaa.Ax
end

section
/- Programs of numbers: augurylaw6.Make. -/
namespace Go.Proofs.Ytclabjihjopclaa.Ax
open Go.RowKit
set_option linter.unusedVariables false
set_option linter.unusedSimpArgs false
noncomputable def a_make : FnA := (fnA Try.prog Try.f23 1 [(5, [2, 3, 4, 5, 6, 7]), (21, [2, 3, 4, 8, 9, 3000256007000900007003, 3000256008000900008002, 3000256009000900009009]), (25, [2, 3, 4, 8, 10, 3000256007000900007003, 3000256008000900008002, 3000256009000900009009])]).getD ⟨0, .skip, [], []⟩
noncomputable def s_make : Sp := spT [c_mkk.fe, c_lins.fe, c_dig1.fe]
theorem s_make_sound : s_make.sound Try.prog := spT_sound fun e he => by
  simp only [List.mem_cons, List.not_mem_nil, or_false] at he
  rcases he with rfl | rfl | rfl
  · exact c_mkk_good
  · exact c_lins_good
  · exact c_dig1_good
def Z_mk : Nat × Blk := (128, bc [.d (.int .i64 0), .d (.int .i64 0), .d (.int .i64 0), .d (.int .i64 0), .d (.int .i64 0), .d (.int .i64 0), .d (.int .i64 0), .nil, .nil, .nil])
def F_mk0 (l : List Int) (w win r0 r1 r2 r3 pub sec i : Int) : St := ⟨mkS 171 [(2, vp 128), (3, .c (.d (.fn 71 [.rptr [.sl (rowsOn l)]]))), (4, vp 256), (5, vi pub), (6, vi sec), (7, vi i)],
  [Z_mk, (256, bc [.d (.int .i64 w), .d (.int .i64 win), .d (.int .i64 6), .d (.int .i64 r0), .d (.int .i64 r1), .d (.int .i64 r2), .d (.int .i64 r3), .nil, .nil, .nil])]⟩
def B_mk (w win r0 r1 r2 r3 : Int) (M L I : List (List D)) (nm nl ni : Nat) : List (Nat × Blk) := [Z_mk, (256, bc [.d (.int .i64 w), .d (.int .i64 win), .d (.int .i64 6), .d (.int .i64 r0), .d (.int .i64 r1), .d (.int .i64 r2), .d (.int .i64 r3), .own 900007 1 nm, .own 900008 1 nl, .own 900009 1 ni]), (900007, ba 3 M), (900008, ba 2 L), (900009, ba 9 I)]
def F_mk1 (l : List Int) (w win r0 r1 r2 r3 : Int) (M L I : List (List D)) (nm nl ni : Nat) (n i : Int) : St := ⟨mkS 171 [(2, vp 128), (3, .c (.d (.fn 71 [.rptr [.sl (rowsOn l)]]))), (4, vp 256), (8, vi n), (9, vi i)], B_mk w win r0 r1 r2 r3 M L I nm nl ni⟩
def F_mk2 (l : List Int) (w win r0 r1 r2 r3 : Int) (M L I : List (List D)) (nm nl ni : Nat) (n i : Int) : St := ⟨mkS 171 [(2, vp 128), (3, .c (.d (.fn 71 [.rptr [.sl (rowsOn l)]]))), (4, vp 256), (8, vi n), (10, vi i)], B_mk w win r0 r1 r2 r3 M L I nm nl ni⟩
set_option maxRecDepth 100000 in
theorem t_make (l : List Int) : a_make.start s_make 400 [al l] =
(VC.need (PreOk c_mkk (l, (0 : Int)) [A.c (D.int IntKind.i64 (0 : Int)), A.c (D.rptr [D.sl (rowsOn l)])])
(VC.need (PreOk c_mkk (l, (0 : Int)) [A.c (D.int IntKind.i64 (0 : Int)), A.c (D.rptr [D.sl (rowsOn l)])])
(VC.need ((0 : Int) ≤ (1 : Int))
(VC.need ((3 : Int) ≠ (0 : Int))
(FnA.at_ a_make 0 (F_mk0 l (IntKind.wrap IntKind.i64 (bits BinOp.and IntKind.i64 (kS (listOf Int (rowsOn l)) (0 : Int)) (1 : Int) + (1 : Int))) (IntKind.wrap IntKind.i64 (Int.tmod (bits BinOp.and IntKind.i64 (Int.fdiv (kS (listOf Int (rowsOn l)) (0 : Int)) (2 : Int)) (255 : Int)) (3 : Int) + (1 : Int))) (0 : Int) (0 : Int) (0 : Int) (0 : Int) (0 : Int) (0 : Int) (0 : Int))))))) := by kernel_rfl
set_option maxRecDepth 100000 in
theorem t_mk00 (l : List Int) (w win pub sec : Int) : a_make.round s_make 400 0 (F_mk0 l w win 0 0 0 0 pub sec 0) =
(VC.need (PreOk c_mkk (l, (1 : Int)) [A.c (D.int IntKind.i64 (1 : Int)), A.c (D.rptr [D.sl (rowsOn l)])])
(VC.need ((0 : Int) ≤ (0 : Int))
(VC.need ((0 : Int) ≤ bits BinOp.and IntKind.i64 (Int.fdiv (kS (listOf Int (rowsOn l)) (1 : Int)) (1 : Int)) (3 : Int) ∧ bits BinOp.and IntKind.i64 (Int.fdiv (kS (listOf Int (rowsOn l)) (1 : Int)) (1 : Int)) (3 : Int) < (4 : Int))
(VC.need (Int.toNat (bits BinOp.and IntKind.i64 (Int.fdiv (kS (listOf Int (rowsOn l)) (1 : Int)) (1 : Int)) (3 : Int)) < (4 : Nat) ∧ List.length (rowAt [[D.int IntKind.i64 (0 : Int)], [D.int IntKind.i64 (0 : Int)], [D.int IntKind.i64 (1 : Int)], [D.int IntKind.i64 (2 : Int)]] (Int.toNat (bits BinOp.and IntKind.i64 (Int.fdiv (kS (listOf Int (rowsOn l)) (1 : Int)) (1 : Int)) (3 : Int)))) = (1 : Nat) ∧ okSh [Kd.int IntKind.i64] (List.drop (0 : Nat) (rowAt [[D.int IntKind.i64 (0 : Int)], [D.int IntKind.i64 (0 : Int)], [D.int IntKind.i64 (1 : Int)], [D.int IntKind.i64 (2 : Int)]] (Int.toNat (bits BinOp.and IntKind.i64 (Int.fdiv (kS (listOf Int (rowsOn l)) (1 : Int)) (1 : Int)) (3 : Int))))))
(VC.br (asInt (List.getD (List.drop (0 : Nat) (rowAt [[D.int IntKind.i64 (0 : Int)], [D.int IntKind.i64 (0 : Int)], [D.int IntKind.i64 (1 : Int)], [D.int IntKind.i64 (2 : Int)]] (Int.toNat (bits BinOp.and IntKind.i64 (Int.fdiv (kS (listOf Int (rowsOn l)) (1 : Int)) (1 : Int)) (3 : Int))))) (0 : Nat) D.nilp) == (1 : Int))
 (VC.br (decide (IntKind.wrap IntKind.i64 (pub + w) ≤ (2 : Int)))
  (FnA.at_ a_make 0 (F_mk0 l w win (asInt (List.getD (List.drop (0 : Nat) (rowAt [[D.int IntKind.i64 (0 : Int)], [D.int IntKind.i64 (0 : Int)], [D.int IntKind.i64 (1 : Int)], [D.int IntKind.i64 (2 : Int)]] (Int.toNat (bits BinOp.and IntKind.i64 (Int.fdiv (kS (listOf Int (rowsOn l)) (1 : Int)) (1 : Int)) (3 : Int))))) (0 : Nat) D.nilp)) (0 : Int) (0 : Int) (0 : Int) (IntKind.wrap IntKind.i64 (pub + w)) sec (1 : Int)))
  (VC.br (asInt (List.getD (List.drop (0 : Nat) (rowAt [[D.int IntKind.i64 (0 : Int)], [D.int IntKind.i64 (0 : Int)], [D.int IntKind.i64 (1 : Int)], [D.int IntKind.i64 (2 : Int)]] (Int.toNat (bits BinOp.and IntKind.i64 (Int.fdiv (kS (listOf Int (rowsOn l)) (1 : Int)) (1 : Int)) (3 : Int))))) (0 : Nat) D.nilp) == (2 : Int))
   (VC.br (decide (IntKind.wrap IntKind.i64 (sec + w) ≤ (2 : Int)))
    (FnA.at_ a_make 0 (F_mk0 l w win (asInt (List.getD (List.drop (0 : Nat) (rowAt [[D.int IntKind.i64 (0 : Int)], [D.int IntKind.i64 (0 : Int)], [D.int IntKind.i64 (1 : Int)], [D.int IntKind.i64 (2 : Int)]] (Int.toNat (bits BinOp.and IntKind.i64 (Int.fdiv (kS (listOf Int (rowsOn l)) (1 : Int)) (1 : Int)) (3 : Int))))) (0 : Nat) D.nilp)) (0 : Int) (0 : Int) (0 : Int) pub (IntKind.wrap IntKind.i64 (sec + w)) (1 : Int)))
    (FnA.at_ a_make 0 (F_mk0 l w win (0 : Int) (0 : Int) (0 : Int) (0 : Int) pub sec (1 : Int))))
   (FnA.at_ a_make 0 (F_mk0 l w win (0 : Int) (0 : Int) (0 : Int) (0 : Int) pub sec (1 : Int)))))
 (VC.br (asInt (List.getD (List.drop (0 : Nat) (rowAt [[D.int IntKind.i64 (0 : Int)], [D.int IntKind.i64 (0 : Int)], [D.int IntKind.i64 (1 : Int)], [D.int IntKind.i64 (2 : Int)]] (Int.toNat (bits BinOp.and IntKind.i64 (Int.fdiv (kS (listOf Int (rowsOn l)) (1 : Int)) (1 : Int)) (3 : Int))))) (0 : Nat) D.nilp) == (2 : Int))
  (VC.br (decide (IntKind.wrap IntKind.i64 (sec + w) ≤ (2 : Int)))
   (FnA.at_ a_make 0 (F_mk0 l w win (asInt (List.getD (List.drop (0 : Nat) (rowAt [[D.int IntKind.i64 (0 : Int)], [D.int IntKind.i64 (0 : Int)], [D.int IntKind.i64 (1 : Int)], [D.int IntKind.i64 (2 : Int)]] (Int.toNat (bits BinOp.and IntKind.i64 (Int.fdiv (kS (listOf Int (rowsOn l)) (1 : Int)) (1 : Int)) (3 : Int))))) (0 : Nat) D.nilp)) (0 : Int) (0 : Int) (0 : Int) pub (IntKind.wrap IntKind.i64 (sec + w)) (1 : Int)))
   (FnA.at_ a_make 0 (F_mk0 l w win (0 : Int) (0 : Int) (0 : Int) (0 : Int) pub sec (1 : Int))))
  (FnA.at_ a_make 0 (F_mk0 l w win (0 : Int) (0 : Int) (0 : Int) (0 : Int) pub sec (1 : Int))))))))) := by kernel_rfl
set_option maxRecDepth 100000 in
theorem t_mk01 (l : List Int) (w win r0 pub sec : Int) : a_make.round s_make 400 0 (F_mk0 l w win r0 0 0 0 pub sec 1) =
(VC.need (PreOk c_mkk (l, (1 : Int)) [A.c (D.int IntKind.i64 (1 : Int)), A.c (D.rptr [D.sl (rowsOn l)])])
(VC.need ((0 : Int) ≤ (2 : Int))
(VC.need ((0 : Int) ≤ bits BinOp.and IntKind.i64 (Int.fdiv (kS (listOf Int (rowsOn l)) (1 : Int)) (4 : Int)) (3 : Int) ∧ bits BinOp.and IntKind.i64 (Int.fdiv (kS (listOf Int (rowsOn l)) (1 : Int)) (4 : Int)) (3 : Int) < (4 : Int))
(VC.need (Int.toNat (bits BinOp.and IntKind.i64 (Int.fdiv (kS (listOf Int (rowsOn l)) (1 : Int)) (4 : Int)) (3 : Int)) < (4 : Nat) ∧ List.length (rowAt [[D.int IntKind.i64 (0 : Int)], [D.int IntKind.i64 (0 : Int)], [D.int IntKind.i64 (1 : Int)], [D.int IntKind.i64 (2 : Int)]] (Int.toNat (bits BinOp.and IntKind.i64 (Int.fdiv (kS (listOf Int (rowsOn l)) (1 : Int)) (4 : Int)) (3 : Int)))) = (1 : Nat) ∧ okSh [Kd.int IntKind.i64] (List.drop (0 : Nat) (rowAt [[D.int IntKind.i64 (0 : Int)], [D.int IntKind.i64 (0 : Int)], [D.int IntKind.i64 (1 : Int)], [D.int IntKind.i64 (2 : Int)]] (Int.toNat (bits BinOp.and IntKind.i64 (Int.fdiv (kS (listOf Int (rowsOn l)) (1 : Int)) (4 : Int)) (3 : Int))))))
(VC.br (asInt (List.getD (List.drop (0 : Nat) (rowAt [[D.int IntKind.i64 (0 : Int)], [D.int IntKind.i64 (0 : Int)], [D.int IntKind.i64 (1 : Int)], [D.int IntKind.i64 (2 : Int)]] (Int.toNat (bits BinOp.and IntKind.i64 (Int.fdiv (kS (listOf Int (rowsOn l)) (1 : Int)) (4 : Int)) (3 : Int))))) (0 : Nat) D.nilp) == (1 : Int))
 (VC.br (decide (IntKind.wrap IntKind.i64 (pub + w) ≤ (2 : Int)))
  (FnA.at_ a_make 0 (F_mk0 l w win r0 (asInt (List.getD (List.drop (0 : Nat) (rowAt [[D.int IntKind.i64 (0 : Int)], [D.int IntKind.i64 (0 : Int)], [D.int IntKind.i64 (1 : Int)], [D.int IntKind.i64 (2 : Int)]] (Int.toNat (bits BinOp.and IntKind.i64 (Int.fdiv (kS (listOf Int (rowsOn l)) (1 : Int)) (4 : Int)) (3 : Int))))) (0 : Nat) D.nilp)) (0 : Int) (0 : Int) (IntKind.wrap IntKind.i64 (pub + w)) sec (2 : Int)))
  (VC.br (asInt (List.getD (List.drop (0 : Nat) (rowAt [[D.int IntKind.i64 (0 : Int)], [D.int IntKind.i64 (0 : Int)], [D.int IntKind.i64 (1 : Int)], [D.int IntKind.i64 (2 : Int)]] (Int.toNat (bits BinOp.and IntKind.i64 (Int.fdiv (kS (listOf Int (rowsOn l)) (1 : Int)) (4 : Int)) (3 : Int))))) (0 : Nat) D.nilp) == (2 : Int))
   (VC.br (decide (IntKind.wrap IntKind.i64 (sec + w) ≤ (2 : Int)))
    (FnA.at_ a_make 0 (F_mk0 l w win r0 (asInt (List.getD (List.drop (0 : Nat) (rowAt [[D.int IntKind.i64 (0 : Int)], [D.int IntKind.i64 (0 : Int)], [D.int IntKind.i64 (1 : Int)], [D.int IntKind.i64 (2 : Int)]] (Int.toNat (bits BinOp.and IntKind.i64 (Int.fdiv (kS (listOf Int (rowsOn l)) (1 : Int)) (4 : Int)) (3 : Int))))) (0 : Nat) D.nilp)) (0 : Int) (0 : Int) pub (IntKind.wrap IntKind.i64 (sec + w)) (2 : Int)))
    (FnA.at_ a_make 0 (F_mk0 l w win r0 (0 : Int) (0 : Int) (0 : Int) pub sec (2 : Int))))
   (FnA.at_ a_make 0 (F_mk0 l w win r0 (0 : Int) (0 : Int) (0 : Int) pub sec (2 : Int)))))
 (VC.br (asInt (List.getD (List.drop (0 : Nat) (rowAt [[D.int IntKind.i64 (0 : Int)], [D.int IntKind.i64 (0 : Int)], [D.int IntKind.i64 (1 : Int)], [D.int IntKind.i64 (2 : Int)]] (Int.toNat (bits BinOp.and IntKind.i64 (Int.fdiv (kS (listOf Int (rowsOn l)) (1 : Int)) (4 : Int)) (3 : Int))))) (0 : Nat) D.nilp) == (2 : Int))
  (VC.br (decide (IntKind.wrap IntKind.i64 (sec + w) ≤ (2 : Int)))
   (FnA.at_ a_make 0 (F_mk0 l w win r0 (asInt (List.getD (List.drop (0 : Nat) (rowAt [[D.int IntKind.i64 (0 : Int)], [D.int IntKind.i64 (0 : Int)], [D.int IntKind.i64 (1 : Int)], [D.int IntKind.i64 (2 : Int)]] (Int.toNat (bits BinOp.and IntKind.i64 (Int.fdiv (kS (listOf Int (rowsOn l)) (1 : Int)) (4 : Int)) (3 : Int))))) (0 : Nat) D.nilp)) (0 : Int) (0 : Int) pub (IntKind.wrap IntKind.i64 (sec + w)) (2 : Int)))
   (FnA.at_ a_make 0 (F_mk0 l w win r0 (0 : Int) (0 : Int) (0 : Int) pub sec (2 : Int))))
  (FnA.at_ a_make 0 (F_mk0 l w win r0 (0 : Int) (0 : Int) (0 : Int) pub sec (2 : Int))))))))) := by kernel_rfl
set_option maxRecDepth 100000 in
theorem t_mk02 (l : List Int) (w win r0 r1 pub sec : Int) : a_make.round s_make 400 0 (F_mk0 l w win r0 r1 0 0 pub sec 2) =
(VC.need (PreOk c_mkk (l, (1 : Int)) [A.c (D.int IntKind.i64 (1 : Int)), A.c (D.rptr [D.sl (rowsOn l)])])
(VC.need ((0 : Int) ≤ (4 : Int))
(VC.need ((0 : Int) ≤ bits BinOp.and IntKind.i64 (Int.fdiv (kS (listOf Int (rowsOn l)) (1 : Int)) (16 : Int)) (3 : Int) ∧ bits BinOp.and IntKind.i64 (Int.fdiv (kS (listOf Int (rowsOn l)) (1 : Int)) (16 : Int)) (3 : Int) < (4 : Int))
(VC.need (Int.toNat (bits BinOp.and IntKind.i64 (Int.fdiv (kS (listOf Int (rowsOn l)) (1 : Int)) (16 : Int)) (3 : Int)) < (4 : Nat) ∧ List.length (rowAt [[D.int IntKind.i64 (0 : Int)], [D.int IntKind.i64 (0 : Int)], [D.int IntKind.i64 (1 : Int)], [D.int IntKind.i64 (2 : Int)]] (Int.toNat (bits BinOp.and IntKind.i64 (Int.fdiv (kS (listOf Int (rowsOn l)) (1 : Int)) (16 : Int)) (3 : Int)))) = (1 : Nat) ∧ okSh [Kd.int IntKind.i64] (List.drop (0 : Nat) (rowAt [[D.int IntKind.i64 (0 : Int)], [D.int IntKind.i64 (0 : Int)], [D.int IntKind.i64 (1 : Int)], [D.int IntKind.i64 (2 : Int)]] (Int.toNat (bits BinOp.and IntKind.i64 (Int.fdiv (kS (listOf Int (rowsOn l)) (1 : Int)) (16 : Int)) (3 : Int))))))
(VC.br (asInt (List.getD (List.drop (0 : Nat) (rowAt [[D.int IntKind.i64 (0 : Int)], [D.int IntKind.i64 (0 : Int)], [D.int IntKind.i64 (1 : Int)], [D.int IntKind.i64 (2 : Int)]] (Int.toNat (bits BinOp.and IntKind.i64 (Int.fdiv (kS (listOf Int (rowsOn l)) (1 : Int)) (16 : Int)) (3 : Int))))) (0 : Nat) D.nilp) == (1 : Int))
 (VC.br (decide (IntKind.wrap IntKind.i64 (pub + w) ≤ (2 : Int)))
  (FnA.at_ a_make 0 (F_mk0 l w win r0 r1 (asInt (List.getD (List.drop (0 : Nat) (rowAt [[D.int IntKind.i64 (0 : Int)], [D.int IntKind.i64 (0 : Int)], [D.int IntKind.i64 (1 : Int)], [D.int IntKind.i64 (2 : Int)]] (Int.toNat (bits BinOp.and IntKind.i64 (Int.fdiv (kS (listOf Int (rowsOn l)) (1 : Int)) (16 : Int)) (3 : Int))))) (0 : Nat) D.nilp)) (0 : Int) (IntKind.wrap IntKind.i64 (pub + w)) sec (3 : Int)))
  (VC.br (asInt (List.getD (List.drop (0 : Nat) (rowAt [[D.int IntKind.i64 (0 : Int)], [D.int IntKind.i64 (0 : Int)], [D.int IntKind.i64 (1 : Int)], [D.int IntKind.i64 (2 : Int)]] (Int.toNat (bits BinOp.and IntKind.i64 (Int.fdiv (kS (listOf Int (rowsOn l)) (1 : Int)) (16 : Int)) (3 : Int))))) (0 : Nat) D.nilp) == (2 : Int))
   (VC.br (decide (IntKind.wrap IntKind.i64 (sec + w) ≤ (2 : Int)))
    (FnA.at_ a_make 0 (F_mk0 l w win r0 r1 (asInt (List.getD (List.drop (0 : Nat) (rowAt [[D.int IntKind.i64 (0 : Int)], [D.int IntKind.i64 (0 : Int)], [D.int IntKind.i64 (1 : Int)], [D.int IntKind.i64 (2 : Int)]] (Int.toNat (bits BinOp.and IntKind.i64 (Int.fdiv (kS (listOf Int (rowsOn l)) (1 : Int)) (16 : Int)) (3 : Int))))) (0 : Nat) D.nilp)) (0 : Int) pub (IntKind.wrap IntKind.i64 (sec + w)) (3 : Int)))
    (FnA.at_ a_make 0 (F_mk0 l w win r0 r1 (0 : Int) (0 : Int) pub sec (3 : Int))))
   (FnA.at_ a_make 0 (F_mk0 l w win r0 r1 (0 : Int) (0 : Int) pub sec (3 : Int)))))
 (VC.br (asInt (List.getD (List.drop (0 : Nat) (rowAt [[D.int IntKind.i64 (0 : Int)], [D.int IntKind.i64 (0 : Int)], [D.int IntKind.i64 (1 : Int)], [D.int IntKind.i64 (2 : Int)]] (Int.toNat (bits BinOp.and IntKind.i64 (Int.fdiv (kS (listOf Int (rowsOn l)) (1 : Int)) (16 : Int)) (3 : Int))))) (0 : Nat) D.nilp) == (2 : Int))
  (VC.br (decide (IntKind.wrap IntKind.i64 (sec + w) ≤ (2 : Int)))
   (FnA.at_ a_make 0 (F_mk0 l w win r0 r1 (asInt (List.getD (List.drop (0 : Nat) (rowAt [[D.int IntKind.i64 (0 : Int)], [D.int IntKind.i64 (0 : Int)], [D.int IntKind.i64 (1 : Int)], [D.int IntKind.i64 (2 : Int)]] (Int.toNat (bits BinOp.and IntKind.i64 (Int.fdiv (kS (listOf Int (rowsOn l)) (1 : Int)) (16 : Int)) (3 : Int))))) (0 : Nat) D.nilp)) (0 : Int) pub (IntKind.wrap IntKind.i64 (sec + w)) (3 : Int)))
   (FnA.at_ a_make 0 (F_mk0 l w win r0 r1 (0 : Int) (0 : Int) pub sec (3 : Int))))
  (FnA.at_ a_make 0 (F_mk0 l w win r0 r1 (0 : Int) (0 : Int) pub sec (3 : Int))))))))) := by kernel_rfl
set_option maxRecDepth 100000 in
theorem t_mk03 (l : List Int) (w win r0 r1 r2 pub sec : Int) : a_make.round s_make 400 0 (F_mk0 l w win r0 r1 r2 0 pub sec 3) =
(VC.need (PreOk c_mkk (l, (1 : Int)) [A.c (D.int IntKind.i64 (1 : Int)), A.c (D.rptr [D.sl (rowsOn l)])])
(VC.need ((0 : Int) ≤ (6 : Int))
(VC.need ((0 : Int) ≤ bits BinOp.and IntKind.i64 (Int.fdiv (kS (listOf Int (rowsOn l)) (1 : Int)) (64 : Int)) (3 : Int) ∧ bits BinOp.and IntKind.i64 (Int.fdiv (kS (listOf Int (rowsOn l)) (1 : Int)) (64 : Int)) (3 : Int) < (4 : Int))
(VC.need (Int.toNat (bits BinOp.and IntKind.i64 (Int.fdiv (kS (listOf Int (rowsOn l)) (1 : Int)) (64 : Int)) (3 : Int)) < (4 : Nat) ∧ List.length (rowAt [[D.int IntKind.i64 (0 : Int)], [D.int IntKind.i64 (0 : Int)], [D.int IntKind.i64 (1 : Int)], [D.int IntKind.i64 (2 : Int)]] (Int.toNat (bits BinOp.and IntKind.i64 (Int.fdiv (kS (listOf Int (rowsOn l)) (1 : Int)) (64 : Int)) (3 : Int)))) = (1 : Nat) ∧ okSh [Kd.int IntKind.i64] (List.drop (0 : Nat) (rowAt [[D.int IntKind.i64 (0 : Int)], [D.int IntKind.i64 (0 : Int)], [D.int IntKind.i64 (1 : Int)], [D.int IntKind.i64 (2 : Int)]] (Int.toNat (bits BinOp.and IntKind.i64 (Int.fdiv (kS (listOf Int (rowsOn l)) (1 : Int)) (64 : Int)) (3 : Int))))))
(VC.br (asInt (List.getD (List.drop (0 : Nat) (rowAt [[D.int IntKind.i64 (0 : Int)], [D.int IntKind.i64 (0 : Int)], [D.int IntKind.i64 (1 : Int)], [D.int IntKind.i64 (2 : Int)]] (Int.toNat (bits BinOp.and IntKind.i64 (Int.fdiv (kS (listOf Int (rowsOn l)) (1 : Int)) (64 : Int)) (3 : Int))))) (0 : Nat) D.nilp) == (1 : Int))
 (VC.br (decide (IntKind.wrap IntKind.i64 (pub + w) ≤ (2 : Int)))
  (FnA.at_ a_make 0 (F_mk0 l w win r0 r1 r2 (asInt (List.getD (List.drop (0 : Nat) (rowAt [[D.int IntKind.i64 (0 : Int)], [D.int IntKind.i64 (0 : Int)], [D.int IntKind.i64 (1 : Int)], [D.int IntKind.i64 (2 : Int)]] (Int.toNat (bits BinOp.and IntKind.i64 (Int.fdiv (kS (listOf Int (rowsOn l)) (1 : Int)) (64 : Int)) (3 : Int))))) (0 : Nat) D.nilp)) (IntKind.wrap IntKind.i64 (pub + w)) sec (4 : Int)))
  (VC.br (asInt (List.getD (List.drop (0 : Nat) (rowAt [[D.int IntKind.i64 (0 : Int)], [D.int IntKind.i64 (0 : Int)], [D.int IntKind.i64 (1 : Int)], [D.int IntKind.i64 (2 : Int)]] (Int.toNat (bits BinOp.and IntKind.i64 (Int.fdiv (kS (listOf Int (rowsOn l)) (1 : Int)) (64 : Int)) (3 : Int))))) (0 : Nat) D.nilp) == (2 : Int))
   (VC.br (decide (IntKind.wrap IntKind.i64 (sec + w) ≤ (2 : Int)))
    (FnA.at_ a_make 0 (F_mk0 l w win r0 r1 r2 (asInt (List.getD (List.drop (0 : Nat) (rowAt [[D.int IntKind.i64 (0 : Int)], [D.int IntKind.i64 (0 : Int)], [D.int IntKind.i64 (1 : Int)], [D.int IntKind.i64 (2 : Int)]] (Int.toNat (bits BinOp.and IntKind.i64 (Int.fdiv (kS (listOf Int (rowsOn l)) (1 : Int)) (64 : Int)) (3 : Int))))) (0 : Nat) D.nilp)) pub (IntKind.wrap IntKind.i64 (sec + w)) (4 : Int)))
    (FnA.at_ a_make 0 (F_mk0 l w win r0 r1 r2 (0 : Int) pub sec (4 : Int))))
   (FnA.at_ a_make 0 (F_mk0 l w win r0 r1 r2 (0 : Int) pub sec (4 : Int)))))
 (VC.br (asInt (List.getD (List.drop (0 : Nat) (rowAt [[D.int IntKind.i64 (0 : Int)], [D.int IntKind.i64 (0 : Int)], [D.int IntKind.i64 (1 : Int)], [D.int IntKind.i64 (2 : Int)]] (Int.toNat (bits BinOp.and IntKind.i64 (Int.fdiv (kS (listOf Int (rowsOn l)) (1 : Int)) (64 : Int)) (3 : Int))))) (0 : Nat) D.nilp) == (2 : Int))
  (VC.br (decide (IntKind.wrap IntKind.i64 (sec + w) ≤ (2 : Int)))
   (FnA.at_ a_make 0 (F_mk0 l w win r0 r1 r2 (asInt (List.getD (List.drop (0 : Nat) (rowAt [[D.int IntKind.i64 (0 : Int)], [D.int IntKind.i64 (0 : Int)], [D.int IntKind.i64 (1 : Int)], [D.int IntKind.i64 (2 : Int)]] (Int.toNat (bits BinOp.and IntKind.i64 (Int.fdiv (kS (listOf Int (rowsOn l)) (1 : Int)) (64 : Int)) (3 : Int))))) (0 : Nat) D.nilp)) pub (IntKind.wrap IntKind.i64 (sec + w)) (4 : Int)))
   (FnA.at_ a_make 0 (F_mk0 l w win r0 r1 r2 (0 : Int) pub sec (4 : Int))))
  (FnA.at_ a_make 0 (F_mk0 l w win r0 r1 r2 (0 : Int) pub sec (4 : Int))))))))) := by kernel_rfl
set_option maxRecDepth 100000 in
theorem t_mk04 (l : List Int) (w win r0 r1 r2 r3 pub sec : Int) : a_make.round s_make 400 0 (F_mk0 l w win r0 r1 r2 r3 pub sec 4) =
(VC.need (PreOk c_mkk (l, (1 : Int)) [A.c (D.int IntKind.i64 (1 : Int)), A.c (D.rptr [D.sl (rowsOn l)])])
(VC.need ((0 : Int) ≤ (8 : Int))
(VC.br (decide ((0 : Int) < bits BinOp.and IntKind.i64 (Int.fdiv (kS (listOf Int (rowsOn l)) (1 : Int)) (256 : Int)) (3 : Int)))
 (VC.need ((List.all [[D.str { data := #[(109 : UInt8)] }, D.bool false, D.int IntKind.i64 (1 : Int)]] fun r ↦ List.length r == (3 : Nat)) = true ∧ (List.all ([] : List (List D)) fun r ↦ List.length r == (3 : Nat)) = true ∧ (3333 : Nat) ≤ (70368744177664 : Nat))
 (VC.br (w == (1 : Int))
  (VC.need (PreOk c_mkk (l, (1 : Int)) [A.c (D.int IntKind.i64 (1 : Int)), A.c (D.rptr [D.sl (rowsOn l)])])
  (VC.need ((0 : Int) ≤ (10 : Int))
  (VC.br (bits BinOp.and IntKind.i64 (Int.fdiv (kS (listOf Int (rowsOn l)) (1 : Int)) (1024 : Int)) (3 : Int) == (0 : Int))
   (VC.need ((0 : Int) ≤ (0 : Int) ∧ (0 : Int) < (1 : Int))
   (VC.need ((0 : Nat) < (1 : Nat) ∧ (3 : Nat) = (3 : Nat) ∧ (3 : Nat) ≤ (3 : Nat))
   (VC.need (PreOk c_mkk (l, (1 : Int)) [A.c (D.int IntKind.i64 (1 : Int)), A.c (D.rptr [D.sl (rowsOn l)])])
   (VC.need ((0 : Int) ≤ (12 : Int))
   (VC.br (decide ((0 : Int) < bits BinOp.and IntKind.i64 (Int.fdiv (kS (listOf Int (rowsOn l)) (1 : Int)) (4096 : Int)) (3 : Int)))
    (VC.br (decide (IntKind.wrap IntKind.i64 (sec + w) ≤ (3 : Int)))
     (VC.need ((0 : Int) ≤ (0 : Int) ∧ (0 : Int) < (1 : Int))
     (VC.need ((0 : Nat) < (1 : Nat) ∧ (3 : Nat) = (3 : Nat) ∧ okSh [Kd.int IntKind.i64] [D.int IntKind.i64 (2 : Int)])
     (VC.need (PreOk c_mkk (l, (0 : Int)) [A.c (D.int IntKind.i64 (0 : Int)), A.c (D.rptr [D.sl (rowsOn l)])])
     (VC.need ((0 : Int) ≤ (12 : Int))
     (FnA.at_ a_make 1 (F_mk1 l w win r0 r1 r2 r3 [[D.str { data := #[(109 : UInt8)] }, D.bool false, D.int IntKind.i64 (2 : Int)]] [] [] (1 : Nat) (0 : Nat) (0 : Nat) (IntKind.wrap IntKind.i64 (bits BinOp.and IntKind.i64 (Int.fdiv (kS (listOf Int (rowsOn l)) (0 : Int)) (4096 : Int)) (3 : Int) + (2 : Int))) (0 : Int)))))))
     (VC.need (PreOk c_mkk (l, (0 : Int)) [A.c (D.int IntKind.i64 (0 : Int)), A.c (D.rptr [D.sl (rowsOn l)])])
     (VC.need ((0 : Int) ≤ (12 : Int))
     (FnA.at_ a_make 1 (F_mk1 l w win r0 r1 r2 r3 [[D.str { data := #[(109 : UInt8)] }, D.bool false, D.int IntKind.i64 (2 : Int)]] [] [] (1 : Nat) (0 : Nat) (0 : Nat) (IntKind.wrap IntKind.i64 (bits BinOp.and IntKind.i64 (Int.fdiv (kS (listOf Int (rowsOn l)) (0 : Int)) (4096 : Int)) (3 : Int) + (2 : Int))) (0 : Int))))))
    (VC.need (PreOk c_mkk (l, (0 : Int)) [A.c (D.int IntKind.i64 (0 : Int)), A.c (D.rptr [D.sl (rowsOn l)])])
    (VC.need ((0 : Int) ≤ (12 : Int))
    (FnA.at_ a_make 1 (F_mk1 l w win r0 r1 r2 r3 [[D.str { data := #[(109 : UInt8)] }, D.bool false, D.int IntKind.i64 (2 : Int)]] [] [] (1 : Nat) (0 : Nat) (0 : Nat) (IntKind.wrap IntKind.i64 (bits BinOp.and IntKind.i64 (Int.fdiv (kS (listOf Int (rowsOn l)) (0 : Int)) (4096 : Int)) (3 : Int) + (2 : Int))) (0 : Int))))))))))
   (VC.need (PreOk c_mkk (l, (1 : Int)) [A.c (D.int IntKind.i64 (1 : Int)), A.c (D.rptr [D.sl (rowsOn l)])])
   (VC.need ((0 : Int) ≤ (12 : Int))
   (VC.br (decide ((0 : Int) < bits BinOp.and IntKind.i64 (Int.fdiv (kS (listOf Int (rowsOn l)) (1 : Int)) (4096 : Int)) (3 : Int)))
    (VC.br (decide (IntKind.wrap IntKind.i64 (sec + w) ≤ (3 : Int)))
     (VC.need ((0 : Int) ≤ (0 : Int) ∧ (0 : Int) < (1 : Int))
     (VC.need ((0 : Nat) < (1 : Nat) ∧ (3 : Nat) = (3 : Nat) ∧ okSh [Kd.int IntKind.i64] [D.int IntKind.i64 (1 : Int)])
     (VC.need ((List.all [[D.str { data := #[(115 : UInt8)] }, D.bool true, D.int IntKind.i64 (1 : Int)]] fun r ↦ List.length r == (3 : Nat)) = true ∧ (List.all [[D.str { data := #[(109 : UInt8)] }, D.bool false, D.int IntKind.i64 (1 : Int)]] fun r ↦ List.length r == (3 : Nat)) = true ∧ (3366 : Nat) ≤ (70368744177664 : Nat))
     (VC.need (PreOk c_mkk (l, (0 : Int)) [A.c (D.int IntKind.i64 (0 : Int)), A.c (D.rptr [D.sl (rowsOn l)])])
     (VC.need ((0 : Int) ≤ (12 : Int))
     (FnA.at_ a_make 1 (F_mk1 l w win r0 r1 r2 r3 [[D.str { data := #[(109 : UInt8)] }, D.bool false, D.int IntKind.i64 (1 : Int)], [D.str { data := #[(115 : UInt8)] }, D.bool true, D.int IntKind.i64 (1 : Int)]] [] [] (2 : Nat) (0 : Nat) (0 : Nat) (IntKind.wrap IntKind.i64 (bits BinOp.and IntKind.i64 (Int.fdiv (kS (listOf Int (rowsOn l)) (0 : Int)) (4096 : Int)) (3 : Int) + (2 : Int))) (0 : Int))))))))
     (VC.need (PreOk c_mkk (l, (0 : Int)) [A.c (D.int IntKind.i64 (0 : Int)), A.c (D.rptr [D.sl (rowsOn l)])])
     (VC.need ((0 : Int) ≤ (12 : Int))
     (FnA.at_ a_make 1 (F_mk1 l w win r0 r1 r2 r3 [[D.str { data := #[(109 : UInt8)] }, D.bool false, D.int IntKind.i64 (1 : Int)]] [] [] (1 : Nat) (0 : Nat) (0 : Nat) (IntKind.wrap IntKind.i64 (bits BinOp.and IntKind.i64 (Int.fdiv (kS (listOf Int (rowsOn l)) (0 : Int)) (4096 : Int)) (3 : Int) + (2 : Int))) (0 : Int))))))
    (VC.need (PreOk c_mkk (l, (0 : Int)) [A.c (D.int IntKind.i64 (0 : Int)), A.c (D.rptr [D.sl (rowsOn l)])])
    (VC.need ((0 : Int) ≤ (12 : Int))
    (FnA.at_ a_make 1 (F_mk1 l w win r0 r1 r2 r3 [[D.str { data := #[(109 : UInt8)] }, D.bool false, D.int IntKind.i64 (1 : Int)]] [] [] (1 : Nat) (0 : Nat) (0 : Nat) (IntKind.wrap IntKind.i64 (bits BinOp.and IntKind.i64 (Int.fdiv (kS (listOf Int (rowsOn l)) (0 : Int)) (4096 : Int)) (3 : Int) + (2 : Int))) (0 : Int)))))))))))
  (VC.need (PreOk c_mkk (l, (1 : Int)) [A.c (D.int IntKind.i64 (1 : Int)), A.c (D.rptr [D.sl (rowsOn l)])])
  (VC.need ((0 : Int) ≤ (12 : Int))
  (VC.br (decide ((0 : Int) < bits BinOp.and IntKind.i64 (Int.fdiv (kS (listOf Int (rowsOn l)) (1 : Int)) (4096 : Int)) (3 : Int)))
   (VC.br (decide (IntKind.wrap IntKind.i64 (sec + w) ≤ (3 : Int)))
    (VC.need ((0 : Int) ≤ (0 : Int) ∧ (0 : Int) < (1 : Int))
    (VC.need ((0 : Nat) < (1 : Nat) ∧ (3 : Nat) = (3 : Nat) ∧ okSh [Kd.int IntKind.i64] [D.int IntKind.i64 (1 : Int)])
    (VC.need ((List.all [[D.str { data := #[(115 : UInt8)] }, D.bool true, D.int IntKind.i64 (1 : Int)]] fun r ↦ List.length r == (3 : Nat)) = true ∧ (List.all [[D.str { data := #[(109 : UInt8)] }, D.bool false, D.int IntKind.i64 (1 : Int)]] fun r ↦ List.length r == (3 : Nat)) = true ∧ (3366 : Nat) ≤ (70368744177664 : Nat))
    (VC.need (PreOk c_mkk (l, (0 : Int)) [A.c (D.int IntKind.i64 (0 : Int)), A.c (D.rptr [D.sl (rowsOn l)])])
    (VC.need ((0 : Int) ≤ (12 : Int))
    (FnA.at_ a_make 1 (F_mk1 l w win r0 r1 r2 r3 [[D.str { data := #[(109 : UInt8)] }, D.bool false, D.int IntKind.i64 (1 : Int)], [D.str { data := #[(115 : UInt8)] }, D.bool true, D.int IntKind.i64 (1 : Int)]] [] [] (2 : Nat) (0 : Nat) (0 : Nat) (IntKind.wrap IntKind.i64 (bits BinOp.and IntKind.i64 (Int.fdiv (kS (listOf Int (rowsOn l)) (0 : Int)) (4096 : Int)) (3 : Int) + (2 : Int))) (0 : Int))))))))
    (VC.need (PreOk c_mkk (l, (0 : Int)) [A.c (D.int IntKind.i64 (0 : Int)), A.c (D.rptr [D.sl (rowsOn l)])])
    (VC.need ((0 : Int) ≤ (12 : Int))
    (FnA.at_ a_make 1 (F_mk1 l w win r0 r1 r2 r3 [[D.str { data := #[(109 : UInt8)] }, D.bool false, D.int IntKind.i64 (1 : Int)]] [] [] (1 : Nat) (0 : Nat) (0 : Nat) (IntKind.wrap IntKind.i64 (bits BinOp.and IntKind.i64 (Int.fdiv (kS (listOf Int (rowsOn l)) (0 : Int)) (4096 : Int)) (3 : Int) + (2 : Int))) (0 : Int))))))
   (VC.need (PreOk c_mkk (l, (0 : Int)) [A.c (D.int IntKind.i64 (0 : Int)), A.c (D.rptr [D.sl (rowsOn l)])])
   (VC.need ((0 : Int) ≤ (12 : Int))
   (FnA.at_ a_make 1 (F_mk1 l w win r0 r1 r2 r3 [[D.str { data := #[(109 : UInt8)] }, D.bool false, D.int IntKind.i64 (1 : Int)]] [] [] (1 : Nat) (0 : Nat) (0 : Nat) (IntKind.wrap IntKind.i64 (bits BinOp.and IntKind.i64 (Int.fdiv (kS (listOf Int (rowsOn l)) (0 : Int)) (4096 : Int)) (3 : Int) + (2 : Int))) (0 : Int))))))))))
 (VC.need (PreOk c_mkk (l, (1 : Int)) [A.c (D.int IntKind.i64 (1 : Int)), A.c (D.rptr [D.sl (rowsOn l)])])
 (VC.need ((0 : Int) ≤ (12 : Int))
 (VC.br (decide ((0 : Int) < bits BinOp.and IntKind.i64 (Int.fdiv (kS (listOf Int (rowsOn l)) (1 : Int)) (4096 : Int)) (3 : Int)))
  (VC.br (decide (IntKind.wrap IntKind.i64 (sec + w) ≤ (3 : Int)))
   (VC.need ((List.all [[D.str { data := #[(115 : UInt8)] }, D.bool true, D.int IntKind.i64 (1 : Int)]] fun r ↦ List.length r == (3 : Nat)) = true ∧ (List.all ([] : List (List D)) fun r ↦ List.length r == (3 : Nat)) = true ∧ (3333 : Nat) ≤ (70368744177664 : Nat))
   (VC.need (PreOk c_mkk (l, (0 : Int)) [A.c (D.int IntKind.i64 (0 : Int)), A.c (D.rptr [D.sl (rowsOn l)])])
   (VC.need ((0 : Int) ≤ (12 : Int))
   (FnA.at_ a_make 1 (F_mk1 l w win r0 r1 r2 r3 [[D.str { data := #[(115 : UInt8)] }, D.bool true, D.int IntKind.i64 (1 : Int)]] [] [] (1 : Nat) (0 : Nat) (0 : Nat) (IntKind.wrap IntKind.i64 (bits BinOp.and IntKind.i64 (Int.fdiv (kS (listOf Int (rowsOn l)) (0 : Int)) (4096 : Int)) (3 : Int) + (2 : Int))) (0 : Int))))))
   (VC.need (PreOk c_mkk (l, (0 : Int)) [A.c (D.int IntKind.i64 (0 : Int)), A.c (D.rptr [D.sl (rowsOn l)])])
   (VC.need ((0 : Int) ≤ (12 : Int))
   (FnA.at_ a_make 1 (F_mk1 l w win r0 r1 r2 r3 [] [] [] (0 : Nat) (0 : Nat) (0 : Nat) (IntKind.wrap IntKind.i64 (bits BinOp.and IntKind.i64 (Int.fdiv (kS (listOf Int (rowsOn l)) (0 : Int)) (4096 : Int)) (3 : Int) + (2 : Int))) (0 : Int))))))
  (VC.need (PreOk c_mkk (l, (0 : Int)) [A.c (D.int IntKind.i64 (0 : Int)), A.c (D.rptr [D.sl (rowsOn l)])])
  (VC.need ((0 : Int) ≤ (12 : Int))
  (FnA.at_ a_make 1 (F_mk1 l w win r0 r1 r2 r3 [] [] [] (0 : Nat) (0 : Nat) (0 : Nat) (IntKind.wrap IntKind.i64 (bits BinOp.and IntKind.i64 (Int.fdiv (kS (listOf Int (rowsOn l)) (0 : Int)) (4096 : Int)) (3 : Int) + (2 : Int))) (0 : Int))))))))))) := by kernel_rfl
set_option maxRecDepth 100000 in
theorem t_mk1 (l : List Int) (w win r0 r1 r2 r3 : Int) (M L I : List (List D)) (nm nl ni : Nat) (n i : Int) : a_make.round s_make 400 1 (F_mk1 l w win r0 r1 r2 r3 M L I nm nl ni n i) =
(VC.br (decide (i ≤ n))
 (VC.need (PreOk c_dig1 i [A.c (D.int IntKind.i64 i)])
 (VC.need ((1 : Nat) + ByteArray.size (digS i) ≤ (9223372036854775807 : Nat))
 (VC.need ((List.all [[D.str ({ data := #[(108 : UInt8)] } ++ digS i), D.int IntKind.i64 i]] fun r ↦ List.length r == (2 : Nat)) = true ∧ (List.all L fun r ↦ List.length r == (2 : Nat)) = true ∧ (List.length L + List.length [[D.str ({ data := #[(108 : UInt8)] } ++ digS i), D.int IntKind.i64 i]] + (100 : Nat)) * (25 : Nat) ≤ (70368744177664 : Nat))
 (FnA.at_ a_make 1 (F_mk1 l w win r0 r1 r2 r3 M (L ++ [[D.str ({ data := #[(108 : UInt8)] } ++ digS i), D.int IntKind.i64 i]]) I nm (List.length L + List.length [[D.str ({ data := #[(108 : UInt8)] } ++ digS i), D.int IntKind.i64 i]]) ni n (IntKind.wrap IntKind.i64 (i + (1 : Int))))))))
 (FnA.at_ a_make 2 (F_mk2 l w win r0 r1 r2 r3 M L I nm nl ni n (0 : Int)))) := by kernel_rfl
set_option maxRecDepth 100000 in
theorem t_mk2 (l : List Int) (w win r0 r1 r2 r3 : Int) (M L I : List (List D)) (nm nl ni : Nat) (n i : Int) : a_make.round s_make 400 2 (F_mk2 l w win r0 r1 r2 r3 M L I nm nl ni n i) =
(VC.br (decide (i < n))
 (VC.need (PreOk c_mkk (l, IntKind.wrap IntKind.i64 (i + (2 : Int))) [A.c (D.int IntKind.i64 (IntKind.wrap IntKind.i64 (i + (2 : Int)))), A.c (D.rptr [D.sl (rowsOn l)])])
 (VC.need (PreOk c_lins (kS l (IntKind.wrap IntKind.i64 (i + (2 : Int))), n) [A.c (D.int IntKind.i64 (kS (listOf Int (rowsOn l)) (IntKind.wrap IntKind.i64 (i + (2 : Int))))), A.c (D.int IntKind.i64 n)])
 (VC.need ((List.all [[D.int IntKind.i64 (insM (kS (listOf Int (rowsOn l)) (IntKind.wrap IntKind.i64 (i + (2 : Int)))) n).kind, D.int IntKind.i64 (insM (kS (listOf Int (rowsOn l)) (IntKind.wrap IntKind.i64 (i + (2 : Int)))) n).op, D.int IntKind.i64 (insM (kS (listOf Int (rowsOn l)) (IntKind.wrap IntKind.i64 (i + (2 : Int)))) n).d, D.bool (insM (kS (listOf Int (rowsOn l)) (IntKind.wrap IntKind.i64 (i + (2 : Int)))) n).aR, D.int IntKind.i64 (insM (kS (listOf Int (rowsOn l)) (IntKind.wrap IntKind.i64 (i + (2 : Int)))) n).aN, D.bool (insM (kS (listOf Int (rowsOn l)) (IntKind.wrap IntKind.i64 (i + (2 : Int)))) n).bR, D.int IntKind.i64 (insM (kS (listOf Int (rowsOn l)) (IntKind.wrap IntKind.i64 (i + (2 : Int)))) n).bN, D.str (insM (kS (listOf Int (rowsOn l)) (IntKind.wrap IntKind.i64 (i + (2 : Int)))) n).name, D.int IntKind.i64 (insM (kS (listOf Int (rowsOn l)) (IntKind.wrap IntKind.i64 (i + (2 : Int)))) n).target]] fun r ↦ List.length r == (9 : Nat)) = true ∧ (List.all I fun r ↦ List.length r == (9 : Nat)) = true ∧ (List.length I + List.length [[D.int IntKind.i64 (insM (kS (listOf Int (rowsOn l)) (IntKind.wrap IntKind.i64 (i + (2 : Int)))) n).kind, D.int IntKind.i64 (insM (kS (listOf Int (rowsOn l)) (IntKind.wrap IntKind.i64 (i + (2 : Int)))) n).op, D.int IntKind.i64 (insM (kS (listOf Int (rowsOn l)) (IntKind.wrap IntKind.i64 (i + (2 : Int)))) n).d, D.bool (insM (kS (listOf Int (rowsOn l)) (IntKind.wrap IntKind.i64 (i + (2 : Int)))) n).aR, D.int IntKind.i64 (insM (kS (listOf Int (rowsOn l)) (IntKind.wrap IntKind.i64 (i + (2 : Int)))) n).aN, D.bool (insM (kS (listOf Int (rowsOn l)) (IntKind.wrap IntKind.i64 (i + (2 : Int)))) n).bR, D.int IntKind.i64 (insM (kS (listOf Int (rowsOn l)) (IntKind.wrap IntKind.i64 (i + (2 : Int)))) n).bN, D.str (insM (kS (listOf Int (rowsOn l)) (IntKind.wrap IntKind.i64 (i + (2 : Int)))) n).name, D.int IntKind.i64 (insM (kS (listOf Int (rowsOn l)) (IntKind.wrap IntKind.i64 (i + (2 : Int)))) n).target]] + (100 : Nat)) * (81 : Nat) ≤ (70368744177664 : Nat))
 (FnA.at_ a_make 2 (F_mk2 l w win r0 r1 r2 r3 M L (I ++ [[D.int IntKind.i64 (insM (kS (listOf Int (rowsOn l)) (IntKind.wrap IntKind.i64 (i + (2 : Int)))) n).kind, D.int IntKind.i64 (insM (kS (listOf Int (rowsOn l)) (IntKind.wrap IntKind.i64 (i + (2 : Int)))) n).op, D.int IntKind.i64 (insM (kS (listOf Int (rowsOn l)) (IntKind.wrap IntKind.i64 (i + (2 : Int)))) n).d, D.bool (insM (kS (listOf Int (rowsOn l)) (IntKind.wrap IntKind.i64 (i + (2 : Int)))) n).aR, D.int IntKind.i64 (insM (kS (listOf Int (rowsOn l)) (IntKind.wrap IntKind.i64 (i + (2 : Int)))) n).aN, D.bool (insM (kS (listOf Int (rowsOn l)) (IntKind.wrap IntKind.i64 (i + (2 : Int)))) n).bR, D.int IntKind.i64 (insM (kS (listOf Int (rowsOn l)) (IntKind.wrap IntKind.i64 (i + (2 : Int)))) n).bN, D.str (insM (kS (listOf Int (rowsOn l)) (IntKind.wrap IntKind.i64 (i + (2 : Int)))) n).name, D.int IntKind.i64 (insM (kS (listOf Int (rowsOn l)) (IntKind.wrap IntKind.i64 (i + (2 : Int)))) n).target]]) nm nl (List.length I + List.length [[D.int IntKind.i64 (insM (kS (listOf Int (rowsOn l)) (IntKind.wrap IntKind.i64 (i + (2 : Int)))) n).kind, D.int IntKind.i64 (insM (kS (listOf Int (rowsOn l)) (IntKind.wrap IntKind.i64 (i + (2 : Int)))) n).op, D.int IntKind.i64 (insM (kS (listOf Int (rowsOn l)) (IntKind.wrap IntKind.i64 (i + (2 : Int)))) n).d, D.bool (insM (kS (listOf Int (rowsOn l)) (IntKind.wrap IntKind.i64 (i + (2 : Int)))) n).aR, D.int IntKind.i64 (insM (kS (listOf Int (rowsOn l)) (IntKind.wrap IntKind.i64 (i + (2 : Int)))) n).aN, D.bool (insM (kS (listOf Int (rowsOn l)) (IntKind.wrap IntKind.i64 (i + (2 : Int)))) n).bR, D.int IntKind.i64 (insM (kS (listOf Int (rowsOn l)) (IntKind.wrap IntKind.i64 (i + (2 : Int)))) n).bN, D.str (insM (kS (listOf Int (rowsOn l)) (IntKind.wrap IntKind.i64 (i + (2 : Int)))) n).name, D.int IntKind.i64 (insM (kS (listOf Int (rowsOn l)) (IntKind.wrap IntKind.i64 (i + (2 : Int)))) n).target]]) n (IntKind.wrap IntKind.i64 (i + (1 : Int))))))))
 (VC.ret (some (RR.agg [Rc.d (D.int IntKind.i64 w), Rc.d (D.int IntKind.i64 win), Rc.d (D.int IntKind.i64 (6 : Int)), Rc.d (D.int IntKind.i64 r0), Rc.d (D.int IntKind.i64 r1), Rc.d (D.int IntKind.i64 r2), Rc.d (D.int IntKind.i64 r3), Rc.new (3 : Nat) M, Rc.new (2 : Nat) L, Rc.new (9 : Nat) I])))) := by kernel_rfl
def Prg.fresh (p : Prg) : List Rc := [.d (.int .i64 p.w), .d (.int .i64 p.window), .d (.int .i64 p.fuel), .d (.int .i64 p.r0), .d (.int .i64 p.r1), .d (.int .i64 p.r2), .d (.int .i64 p.r3), .new 3 (rowsOn p.mems), .new 2 (rowsOn p.labels), .new 9 (rowsOn p.ins)]
def bitsR (v w r : Int) : Int := if r = v then w else 0
structure HRegs (w r0 r1 r2 r3 : Int) : Prop where
  hw : 1 ≤ w ∧ w ≤ 2
  h0 : 0 ≤ r0 ∧ r0 ≤ 2
  h1 : 0 ≤ r1 ∧ r1 ≤ 2
  h2 : 0 ≤ r2 ∧ r2 ≤ 2
  h3 : 0 ≤ r3 ∧ r3 ≤ 2
  pub : bitsR 1 w r0 + bitsR 1 w r1 + bitsR 1 w r2 + bitsR 1 w r3 ≤ 2
  sec : bitsR 2 w r0 + bitsR 2 w r1 + bitsR 2 w r2 + bitsR 2 w r3 ≤ 2
structure HMems (w r0 r1 r2 r3 : Int) (ms : List PMem) : Prop where
  len : ms.length ≤ 2
  n : ∀ m ∈ ms, 1 ≤ m.n ∧ m.n ≤ 2
  cells : cellsS ms ≤ 2
/-- A program that Make makes. -/
structure WFM (p : Prg) : Prop where
  regs : HRegs p.w p.r0 p.r1 p.r2 p.r3
  win : 1 ≤ p.window ∧ p.window ≤ 3
  fuel : p.fuel = 6
  mems : HMems p.w p.r0 p.r1 p.r2 p.r3 p.mems
  labels : p.labels.length ≤ 10
  len : 2 ≤ p.ins.length ∧ p.ins.length ≤ 5
  ins : ∀ i ∈ p.ins, WFI p.ins.length i
def MkQ (r : RR) : Prop := ∃ p, WFM p ∧ r = .agg p.fresh
theorem digS_size (n : Int) : (digS n).size = 1 := by
  unfold digS
  repeat' split
  all_goals rfl
theorem l_mk2 (l : List Int) (w win r0 r1 r2 r3 n : Int) (M L : List (List D)) (nm nl : Nat) (ms : List PMem) (ls : List PLabel) (hr : HRegs w r0 r1 r2 r3) (hwin : 1 ≤ win ∧ win ≤ 3) (hM : OnL M nm ms) (hL : OnL L nl ls) (hms : HMems w r0 r1 r2 r3 ms) (hls : ls.length ≤ 10) (hn : 2 ≤ n ∧ n ≤ 5) : ∀ i : Int × List (List D) × Nat, (fun (i : Int × List (List D) × Nat) => 0 ≤ i.1 ∧ i.1 ≤ n ∧ ∃ is : List Ins, OnL i.2.1 i.2.2 is ∧ is.length = i.1 ∧ ∀ x ∈ is, WFI n x) i → (a_make.at_ 2 ((fun (i : Int × List (List D) × Nat) => F_mk2 l w win r0 r1 r2 r3 M L i.2.1 nm nl i.2.2 n i.1) i)).holds s_make.cx a_make.rs (MkQ) := by
  refine loop_rule (a := a_make) (j := 2) (m := 400) s_make_sound (fun (i : Int × List (List D) × Nat) => F_mk2 l w win r0 r1 r2 r3 M L i.2.1 nm nl i.2.2 n i.1) (fun (i : Int × List (List D) × Nat) => 0 ≤ i.1 ∧ i.1 ≤ n ∧ ∃ is : List Ins, OnL i.2.1 i.2.2 is ∧ is.length = i.1 ∧ ∀ x ∈ is, WFI n x) (fun (i : Int × List (List D) × Nat) => (n - i.1).toNat) ?_
  rintro ⟨i, I, ni⟩ h_inv ih
  try dsimp only at h_inv
  replace ih := fun (v0 : Int) (v1 : List (List D)) (v2 : Nat) => ih (v0, v1, v2)
  try dsimp only at ih
  show VC.holds _ _ _ (a_make.round s_make 400 2 (F_mk2 l w win r0 r1 r2 r3 M L I nm nl ni n i))
  rw [t_mk2]
  try simp only [asRows_sl, asInt_int, asBool_bool, asStr_str, listOf_rowsOn, List.drop_zero, Prg.eta, Sta.eta, rowsOn_length, getD_drop, Nat.reduceAdd, rd_int, rd_PMem_name, rd_PMem_secret, rd_PMem_n, rd_PLabel_name, rd_PLabel_at_, rd_Ins_kind, rd_Ins_op, rd_Ins_d, rd_Ins_aR, rd_Ins_aN, rd_Ins_bR, rd_Ins_bN, rd_Ins_name, rd_Ins_target, rd_Ent_pc, rd_Ent_val, rd_Ent_addr, rd_Ent_fro, rd_Ent_next, rd_Ent_done, rd_Ent_known, rd_Ent_fault, rd_Place_reg, rd_Place_n, rd_Place_secret, rd_Obs_kind, rd_Obs_at_, rd_Dir_kind, rd_Dir_n]
  obtain ⟨h0, h1, is, h2, h3, h4⟩ := h_inv
  rw [wrap_small (i + 2) (by omega) (by omega), wrap_small (i + 1) (by omega) (by omega)]
  repeat' first
    | refine br_not ?_
    | refine br_dec (fun _ => ?_) (fun _ => ?_)
    | refine br_beq (fun _ => ?_) (fun _ => ?_)
    | refine br_bne (fun _ => ?_) (fun _ => ?_)
    | refine br_holds (fun _ => ?_) (fun _ => ?_)
    | refine ⟨PreOk.mk ?_ rfl, ?_⟩
    | refine ⟨idx_ok _ _ _ rfl (by omega) (by omega), ?_⟩
    | refine ⟨okSh_ok _ _ _ (fun _ => rfl) (by omega) (by omega), ?_⟩
    | refine ⟨okSh_okD _ _ _ _ (fun _ => rfl) (by omega) (by omega), ?_⟩
    | refine ⟨aload_ok _ _ rfl (fun _ => rfl) (by omega) (by omega), ?_⟩
    | refine ⟨aload_okD _ _ _ rfl (fun _ => rfl) (by omega) (by omega), ?_⟩
    | refine ⟨astore_ok (by assumption) rfl (by omega) (by omega) (by decide), ?_⟩
    | refine ⟨app_ok (by assumption) rfl rfl (by simp only [List.length_cons, List.length_nil]; omega), ?_⟩
    | refine need_holds ?_ fun _ => ?_
    | refine all_holds fun y hy => ?_
    | refine ret_eq ?_
    | refine ih _ _ _ ?_ ?_
  all_goals try (show 0 ≤ i + 2; omega)
  all_goals try (show 1 ≤ n ∧ n ≤ 1000; omega)
  · have hx := (insM_spec (kS l (i + 2)) n (by omega)).1
    refine ⟨by omega, by omega, is ++ [insM (kS l (i + 2)) n], OnL.snoc h2 (insM (kS l (i + 2)) n), by simp; omega, ?_⟩
    intro x hx'
    rcases List.mem_append.1 hx' with h | h
    · exact h4 x h
    · simp only [List.mem_singleton] at h; subst h; exact hx
  · omega
  · obtain ⟨rfl, rfl⟩ := h2
    obtain ⟨rfl, rfl⟩ := hM
    obtain ⟨rfl, rfl⟩ := hL
    have hi : (is.length : Int) = n := by omega
    exact ⟨⟨w, win, 6, r0, r1, r2, r3, ms, ls, is⟩, ⟨hr, hwin, rfl, hms, hls, by dsimp only; omega, fun x hx => by dsimp only; rw [hi]; exact h4 x hx⟩, rfl⟩
theorem l_mk1 (l : List Int) (w win r0 r1 r2 r3 n : Int) (M : List (List D)) (nm : Nat) (ms : List PMem) (hr : HRegs w r0 r1 r2 r3) (hwin : 1 ≤ win ∧ win ≤ 3) (hM : OnL M nm ms) (hms : HMems w r0 r1 r2 r3 ms) (hn : 2 ≤ n ∧ n ≤ 5) : ∀ i : Int × List (List D) × Nat, (fun (i : Int × List (List D) × Nat) => 0 ≤ i.1 ∧ i.1 ≤ n + 1 ∧ ∃ ls : List PLabel, OnL i.2.1 i.2.2 ls ∧ ls.length = i.1) i → (a_make.at_ 1 ((fun (i : Int × List (List D) × Nat) => F_mk1 l w win r0 r1 r2 r3 M i.2.1 [] nm i.2.2 0 n i.1) i)).holds s_make.cx a_make.rs (MkQ) := by
  refine loop_rule (a := a_make) (j := 1) (m := 400) s_make_sound (fun (i : Int × List (List D) × Nat) => F_mk1 l w win r0 r1 r2 r3 M i.2.1 [] nm i.2.2 0 n i.1) (fun (i : Int × List (List D) × Nat) => 0 ≤ i.1 ∧ i.1 ≤ n + 1 ∧ ∃ ls : List PLabel, OnL i.2.1 i.2.2 ls ∧ ls.length = i.1) (fun (i : Int × List (List D) × Nat) => (n + 1 - i.1).toNat) ?_
  rintro ⟨i, L, nl⟩ h_inv ih
  try dsimp only at h_inv
  replace ih := fun (v0 : Int) (v1 : List (List D)) (v2 : Nat) => ih (v0, v1, v2)
  try dsimp only at ih
  show VC.holds _ _ _ (a_make.round s_make 400 1 (F_mk1 l w win r0 r1 r2 r3 M L [] nm nl 0 n i))
  rw [t_mk1]
  try simp only [asRows_sl, asInt_int, asBool_bool, asStr_str, listOf_rowsOn, List.drop_zero, Prg.eta, Sta.eta, rowsOn_length, getD_drop, Nat.reduceAdd, rd_int, rd_PMem_name, rd_PMem_secret, rd_PMem_n, rd_PLabel_name, rd_PLabel_at_, rd_Ins_kind, rd_Ins_op, rd_Ins_d, rd_Ins_aR, rd_Ins_aN, rd_Ins_bR, rd_Ins_bN, rd_Ins_name, rd_Ins_target, rd_Ent_pc, rd_Ent_val, rd_Ent_addr, rd_Ent_fro, rd_Ent_next, rd_Ent_done, rd_Ent_known, rd_Ent_fault, rd_Place_reg, rd_Place_n, rd_Place_secret, rd_Obs_kind, rd_Obs_at_, rd_Dir_kind, rd_Dir_n]
  obtain ⟨h0, h1, ls, h2, h3⟩ := h_inv
  rw [wrap_small (i + 1) (by omega) (by omega)]
  repeat' first
    | refine br_not ?_
    | refine br_dec (fun _ => ?_) (fun _ => ?_)
    | refine br_beq (fun _ => ?_) (fun _ => ?_)
    | refine br_bne (fun _ => ?_) (fun _ => ?_)
    | refine br_holds (fun _ => ?_) (fun _ => ?_)
    | refine ⟨PreOk.mk ?_ rfl, ?_⟩
    | refine ⟨idx_ok _ _ _ rfl (by omega) (by omega), ?_⟩
    | refine ⟨okSh_ok _ _ _ (fun _ => rfl) (by omega) (by omega), ?_⟩
    | refine ⟨okSh_okD _ _ _ _ (fun _ => rfl) (by omega) (by omega), ?_⟩
    | refine ⟨aload_ok _ _ rfl (fun _ => rfl) (by omega) (by omega), ?_⟩
    | refine ⟨aload_okD _ _ _ rfl (fun _ => rfl) (by omega) (by omega), ?_⟩
    | refine ⟨astore_ok (by assumption) rfl (by omega) (by omega) (by decide), ?_⟩
    | refine ⟨app_ok (by assumption) rfl rfl (by simp only [List.length_cons, List.length_nil]; omega), ?_⟩
    | refine need_holds ?_ fun _ => ?_
    | refine all_holds fun y hy => ?_
    | refine ret_eq ?_
    | refine ih _ _ _ ?_ ?_
  all_goals try (show 0 ≤ i ∧ i ≤ 9; omega)
  · rw [digS_size]; decide
  · exact ⟨by omega, by omega, ls ++ [_], OnL.snoc h2 (⟨_, _⟩ : PLabel), by simp; omega⟩
  · omega
  · exact l_mk2 l w win r0 r1 r2 r3 n M L nm nl ms ls hr hwin hM h2 hms (by omega) hn (0, [], 0) ⟨by simp, by simp; omega, [], OnL.nil, by simp, by simp⟩
theorem hm_nil (w r0 r1 r2 r3 : Int) : HMems w r0 r1 r2 r3 [] := ⟨by simp, by simp, by simp [cellsS]⟩
theorem hm_one (w r0 r1 r2 r3 : Int) (nm : ByteArray) (b : Bool) (n : Int) (hn : 1 ≤ n ∧ n ≤ 2) : HMems w r0 r1 r2 r3 [⟨nm, b, n⟩] := ⟨by simp, by simpa using hn, by simp [cellsS]; omega⟩
theorem hm_two (w r0 r1 r2 r3 : Int) (nm nm' : ByteArray) (b b' : Bool) : HMems w r0 r1 r2 r3 [⟨nm, b, 1⟩, ⟨nm', b', 1⟩] := ⟨by simp, by simp, by simp [cellsS]⟩
theorem l_mk04 (l : List Int) (w win r0 r1 r2 r3 pub sec : Int) (hr : HRegs w r0 r1 r2 r3) (hwin : 1 ≤ win ∧ win ≤ 3) (hsec : 0 ≤ sec ∧ sec ≤ 2) : (a_make.at_ 0 (F_mk0 l w win r0 r1 r2 r3 pub sec 4)).holds s_make.cx a_make.rs MkQ := by
  have hw := hr.hw
  refine at_of_round s_make_sound (m := 400) ?_
  rw [t_mk04]
  simp only [asRows_sl, asInt_int, asBool_bool, asStr_str, listOf_rowsOn, List.drop_zero, Prg.eta, Sta.eta, rowsOn_length, getD_drop, Nat.reduceAdd, rd_int, rd_PMem_name, rd_PMem_secret, rd_PMem_n, rd_PLabel_name, rd_PLabel_at_, rd_Ins_kind, rd_Ins_op, rd_Ins_d, rd_Ins_aR, rd_Ins_aN, rd_Ins_bR, rd_Ins_bN, rd_Ins_name, rd_Ins_target, rd_Ent_pc, rd_Ent_val, rd_Ent_addr, rd_Ent_fro, rd_Ent_next, rd_Ent_done, rd_Ent_known, rd_Ent_fault, rd_Place_reg, rd_Place_n, rd_Place_secret, rd_Obs_kind, rd_Obs_at_, rd_Dir_kind, rd_Dir_n]
  simp only [and3]
  rw [wrap_small (Int.fdiv (kS l 0) 4096 % 4 + 2) (by omega) (by omega), wrap_small (sec + w) (by omega) (by omega)]
  repeat' first
    | refine br_not ?_
    | refine br_dec (fun _ => ?_) (fun _ => ?_)
    | refine br_beq (fun _ => ?_) (fun _ => ?_)
    | refine br_bne (fun _ => ?_) (fun _ => ?_)
    | refine br_holds (fun _ => ?_) (fun _ => ?_)
    | refine ⟨PreOk.mk ?_ rfl, ?_⟩
    | refine ⟨idx_ok _ _ _ rfl (by omega) (by omega), ?_⟩
    | refine ⟨okSh_ok _ _ _ (fun _ => rfl) (by omega) (by omega), ?_⟩
    | refine ⟨okSh_okD _ _ _ _ (fun _ => rfl) (by omega) (by omega), ?_⟩
    | refine ⟨aload_ok _ _ rfl (fun _ => rfl) (by omega) (by omega), ?_⟩
    | refine ⟨aload_okD _ _ _ rfl (fun _ => rfl) (by omega) (by omega), ?_⟩
    | refine ⟨astore_ok (by assumption) rfl (by omega) (by omega) (by decide), ?_⟩
    | refine ⟨app_ok (by assumption) rfl rfl (by simp only [List.length_cons, List.length_nil]; omega), ?_⟩
    | refine need_holds ?_ fun _ => ?_
    | refine all_holds fun y hy => ?_
    | refine ret_eq ?_
  all_goals try (dsimp only [c_mkk]; omega)
  all_goals try exact ⟨by decide, trivial, rfl⟩
  all_goals first
    | exact l_mk1 l w win r0 r1 r2 r3 _ _ _ [] hr hwin ⟨rfl, rfl⟩ (hm_nil ..) (by omega) (0, [], 0) ⟨by simp, by simp; omega, [], OnL.nil, rfl⟩
    | exact l_mk1 l w win r0 r1 r2 r3 _ _ _ [⟨_, _, _⟩] hr hwin ⟨rfl, rfl⟩ (hm_one _ _ _ _ _ _ _ _ (by decide)) (by omega) (0, [], 0) ⟨by simp, by simp; omega, [], OnL.nil, rfl⟩
    | exact l_mk1 l w win r0 r1 r2 r3 _ _ _ [⟨_, _, _⟩, ⟨_, _, _⟩] hr hwin ⟨rfl, rfl⟩ (hm_two ..) (by omega) (0, [], 0) ⟨by simp, by simp; omega, [], OnL.nil, rfl⟩
    | skip
  all_goals try omega
  all_goals try exact ⟨rfl, rfl, by decide⟩
  all_goals try exact ⟨by decide, trivial, by decide⟩
theorem br11 (w : Int) : bitsR 1 w 1 = w := if_pos rfl
theorem br12 (w : Int) : bitsR 1 w 2 = 0 := if_neg (by decide)
theorem br21 (w : Int) : bitsR 2 w 1 = 0 := if_neg (by decide)
theorem br22 (w : Int) : bitsR 2 w 2 = w := if_pos rfl
theorem br10 (w : Int) : bitsR 1 w 0 = 0 := if_neg (by decide)
theorem br20 (w : Int) : bitsR 2 w 0 = 0 := if_neg (by decide)
theorem tabR : ∀ i : Nat, i < 4 → (asInt (List.getD (rowAt [[D.int IntKind.i64 (0 : Int)], [D.int IntKind.i64 (0 : Int)], [D.int IntKind.i64 (1 : Int)], [D.int IntKind.i64 (2 : Int)]] i) 0 D.nilp) = 0 ∨ asInt (List.getD (rowAt [[D.int IntKind.i64 (0 : Int)], [D.int IntKind.i64 (0 : Int)], [D.int IntKind.i64 (1 : Int)], [D.int IntKind.i64 (2 : Int)]] i) 0 D.nilp) = 1 ∨ asInt (List.getD (rowAt [[D.int IntKind.i64 (0 : Int)], [D.int IntKind.i64 (0 : Int)], [D.int IntKind.i64 (1 : Int)], [D.int IntKind.i64 (2 : Int)]] i) 0 D.nilp) = 2) ∧ (rowAt [[D.int IntKind.i64 (0 : Int)], [D.int IntKind.i64 (0 : Int)], [D.int IntKind.i64 (1 : Int)], [D.int IntKind.i64 (2 : Int)]] i).length = 1 ∧ okSh [Kd.int IntKind.i64] (rowAt [[D.int IntKind.i64 (0 : Int)], [D.int IntKind.i64 (0 : Int)], [D.int IntKind.i64 (1 : Int)], [D.int IntKind.i64 (2 : Int)]] i) := by
  intro i hi
  have : i = 0 ∨ i = 1 ∨ i = 2 ∨ i = 3 := by omega
  rcases this with h | h | h | h <;> (subst h; exact ⟨by decide, rfl, rfl⟩)
theorem l_mk03 (l : List Int) (w win r0 r1 r2 pub sec : Int) (hr : HRegs w r0 r1 r2 0) (hwin : 1 ≤ win ∧ win ≤ 3) (hp : pub = bitsR 1 w r0 + bitsR 1 w r1 + bitsR 1 w r2) (hs : sec = bitsR 2 w r0 + bitsR 2 w r1 + bitsR 2 w r2) (hp2 : 0 ≤ pub ∧ pub ≤ 2) (hs2 : 0 ≤ sec ∧ sec ≤ 2) : (a_make.at_ 0 (F_mk0 l w win r0 r1 r2 0 pub sec 3)).holds s_make.cx a_make.rs MkQ := by
  have hw := hr.hw
  refine at_of_round s_make_sound (m := 400) ?_
  rw [t_mk03]
  simp only [asRows_sl, asInt_int, asBool_bool, asStr_str, listOf_rowsOn, List.drop_zero, Prg.eta, Sta.eta, rowsOn_length, getD_drop, Nat.reduceAdd, rd_int, rd_PMem_name, rd_PMem_secret, rd_PMem_n, rd_PLabel_name, rd_PLabel_at_, rd_Ins_kind, rd_Ins_op, rd_Ins_d, rd_Ins_aR, rd_Ins_aN, rd_Ins_bR, rd_Ins_bN, rd_Ins_name, rd_Ins_target, rd_Ent_pc, rd_Ent_val, rd_Ent_addr, rd_Ent_fro, rd_Ent_next, rd_Ent_done, rd_Ent_known, rd_Ent_fault, rd_Place_reg, rd_Place_n, rd_Place_secret, rd_Obs_kind, rd_Obs_at_, rd_Dir_kind, rd_Dir_n]
  simp only [and3]
  rw [wrap_small (pub + w) (by omega) (by omega), wrap_small (sec + w) (by omega) (by omega)]
  have h1 := tabR (Int.fdiv (kS l 1) 64 % 4).toNat (by omega)
  refine ⟨PreOk.mk (by dsimp only [c_mkk]; omega) rfl, by decide, ⟨by omega, by omega⟩, ⟨by omega, h1.2.1, h1.2.2⟩, ?_⟩
  obtain ⟨h2, _⟩ := h1
  revert h2
  generalize asInt (List.getD (rowAt _ (Int.fdiv (kS l 1) 64 % 4).toNat) 0 D.nilp) = kd
  intro h2
  have e1 := br11 w
  have e2 := br12 w
  have e3 := br21 w
  have e4 := br22 w
  have e5 := br10 w
  have e6 := br20 w
  obtain ⟨hw', g0, g1, g2, g3, gp, gs⟩ := hr
  rcases h2 with rfl | rfl | rfl
  all_goals
    repeat' first
      | refine br_not ?_
      | refine br_dec (fun _ => ?_) (fun _ => ?_)
      | refine br_beq (fun _ => ?_) (fun _ => ?_)
      | refine br_bne (fun _ => ?_) (fun _ => ?_)
      | refine br_holds (fun _ => ?_) (fun _ => ?_)
      | refine ⟨PreOk.mk ?_ rfl, ?_⟩
      | refine ⟨idx_ok _ _ _ rfl (by omega) (by omega), ?_⟩
      | refine ⟨okSh_ok _ _ _ (fun _ => rfl) (by omega) (by omega), ?_⟩
      | refine ⟨okSh_okD _ _ _ _ (fun _ => rfl) (by omega) (by omega), ?_⟩
      | refine ⟨aload_ok _ _ rfl (fun _ => rfl) (by omega) (by omega), ?_⟩
      | refine ⟨aload_okD _ _ _ rfl (fun _ => rfl) (by omega) (by omega), ?_⟩
      | refine ⟨astore_ok (by assumption) rfl (by omega) (by omega) (by decide), ?_⟩
      | refine ⟨app_ok (by assumption) rfl rfl (by simp only [List.length_cons, List.length_nil]; omega), ?_⟩
      | refine need_holds ?_ fun _ => ?_
      | refine all_holds fun y hy => ?_
      | refine ret_eq ?_
  all_goals try omega
  all_goals exact l_mk04 l w win r0 r1 r2 _ _ _ ⟨by omega, by omega, by omega, by omega, by omega, by omega, by omega⟩ hwin (by omega)
theorem l_mk02 (l : List Int) (w win r0 r1 pub sec : Int) (hr : HRegs w r0 r1 0 0) (hwin : 1 ≤ win ∧ win ≤ 3) (hp : pub = bitsR 1 w r0 + bitsR 1 w r1) (hs : sec = bitsR 2 w r0 + bitsR 2 w r1) (hp2 : 0 ≤ pub ∧ pub ≤ 2) (hs2 : 0 ≤ sec ∧ sec ≤ 2) : (a_make.at_ 0 (F_mk0 l w win r0 r1 0 0 pub sec 2)).holds s_make.cx a_make.rs MkQ := by
  have hw := hr.hw
  refine at_of_round s_make_sound (m := 400) ?_
  rw [t_mk02]
  simp only [asRows_sl, asInt_int, asBool_bool, asStr_str, listOf_rowsOn, List.drop_zero, Prg.eta, Sta.eta, rowsOn_length, getD_drop, Nat.reduceAdd, rd_int, rd_PMem_name, rd_PMem_secret, rd_PMem_n, rd_PLabel_name, rd_PLabel_at_, rd_Ins_kind, rd_Ins_op, rd_Ins_d, rd_Ins_aR, rd_Ins_aN, rd_Ins_bR, rd_Ins_bN, rd_Ins_name, rd_Ins_target, rd_Ent_pc, rd_Ent_val, rd_Ent_addr, rd_Ent_fro, rd_Ent_next, rd_Ent_done, rd_Ent_known, rd_Ent_fault, rd_Place_reg, rd_Place_n, rd_Place_secret, rd_Obs_kind, rd_Obs_at_, rd_Dir_kind, rd_Dir_n]
  simp only [and3]
  rw [wrap_small (pub + w) (by omega) (by omega), wrap_small (sec + w) (by omega) (by omega)]
  have h1 := tabR (Int.fdiv (kS l 1) 16 % 4).toNat (by omega)
  refine ⟨PreOk.mk (by dsimp only [c_mkk]; omega) rfl, by decide, ⟨by omega, by omega⟩, ⟨by omega, h1.2.1, h1.2.2⟩, ?_⟩
  obtain ⟨h2, _⟩ := h1
  revert h2
  generalize asInt (List.getD (rowAt _ (Int.fdiv (kS l 1) 16 % 4).toNat) 0 D.nilp) = kd
  intro h2
  have e1 := br11 w
  have e2 := br12 w
  have e3 := br21 w
  have e4 := br22 w
  have e5 := br10 w
  have e6 := br20 w
  obtain ⟨hw', g0, g1, g2, g3, gp, gs⟩ := hr
  rcases h2 with rfl | rfl | rfl
  all_goals
    repeat' first
      | refine br_not ?_
      | refine br_dec (fun _ => ?_) (fun _ => ?_)
      | refine br_beq (fun _ => ?_) (fun _ => ?_)
      | refine br_bne (fun _ => ?_) (fun _ => ?_)
      | refine br_holds (fun _ => ?_) (fun _ => ?_)
      | refine ⟨PreOk.mk ?_ rfl, ?_⟩
      | refine ⟨idx_ok _ _ _ rfl (by omega) (by omega), ?_⟩
      | refine ⟨okSh_ok _ _ _ (fun _ => rfl) (by omega) (by omega), ?_⟩
      | refine ⟨okSh_okD _ _ _ _ (fun _ => rfl) (by omega) (by omega), ?_⟩
      | refine ⟨aload_ok _ _ rfl (fun _ => rfl) (by omega) (by omega), ?_⟩
      | refine ⟨aload_okD _ _ _ rfl (fun _ => rfl) (by omega) (by omega), ?_⟩
      | refine ⟨astore_ok (by assumption) rfl (by omega) (by omega) (by decide), ?_⟩
      | refine ⟨app_ok (by assumption) rfl rfl (by simp only [List.length_cons, List.length_nil]; omega), ?_⟩
      | refine need_holds ?_ fun _ => ?_
      | refine all_holds fun y hy => ?_
      | refine ret_eq ?_
  all_goals try omega
  all_goals exact l_mk03 l w win r0 r1 _ _ _ ⟨by omega, by omega, by omega, by omega, by omega, by omega, by omega⟩ hwin (by omega) (by omega) (by omega) (by omega)
theorem l_mk01 (l : List Int) (w win r0 pub sec : Int) (hr : HRegs w r0 0 0 0) (hwin : 1 ≤ win ∧ win ≤ 3) (hp : pub = bitsR 1 w r0) (hs : sec = bitsR 2 w r0) (hp2 : 0 ≤ pub ∧ pub ≤ 2) (hs2 : 0 ≤ sec ∧ sec ≤ 2) : (a_make.at_ 0 (F_mk0 l w win r0 0 0 0 pub sec 1)).holds s_make.cx a_make.rs MkQ := by
  have hw := hr.hw
  refine at_of_round s_make_sound (m := 400) ?_
  rw [t_mk01]
  simp only [asRows_sl, asInt_int, asBool_bool, asStr_str, listOf_rowsOn, List.drop_zero, Prg.eta, Sta.eta, rowsOn_length, getD_drop, Nat.reduceAdd, rd_int, rd_PMem_name, rd_PMem_secret, rd_PMem_n, rd_PLabel_name, rd_PLabel_at_, rd_Ins_kind, rd_Ins_op, rd_Ins_d, rd_Ins_aR, rd_Ins_aN, rd_Ins_bR, rd_Ins_bN, rd_Ins_name, rd_Ins_target, rd_Ent_pc, rd_Ent_val, rd_Ent_addr, rd_Ent_fro, rd_Ent_next, rd_Ent_done, rd_Ent_known, rd_Ent_fault, rd_Place_reg, rd_Place_n, rd_Place_secret, rd_Obs_kind, rd_Obs_at_, rd_Dir_kind, rd_Dir_n]
  simp only [and3]
  rw [wrap_small (pub + w) (by omega) (by omega), wrap_small (sec + w) (by omega) (by omega)]
  have h1 := tabR (Int.fdiv (kS l 1) 4 % 4).toNat (by omega)
  refine ⟨PreOk.mk (by dsimp only [c_mkk]; omega) rfl, by decide, ⟨by omega, by omega⟩, ⟨by omega, h1.2.1, h1.2.2⟩, ?_⟩
  obtain ⟨h2, _⟩ := h1
  revert h2
  generalize asInt (List.getD (rowAt _ (Int.fdiv (kS l 1) 4 % 4).toNat) 0 D.nilp) = kd
  intro h2
  have e1 := br11 w
  have e2 := br12 w
  have e3 := br21 w
  have e4 := br22 w
  have e5 := br10 w
  have e6 := br20 w
  obtain ⟨hw', g0, g1, g2, g3, gp, gs⟩ := hr
  rcases h2 with rfl | rfl | rfl
  all_goals
    repeat' first
      | refine br_not ?_
      | refine br_dec (fun _ => ?_) (fun _ => ?_)
      | refine br_beq (fun _ => ?_) (fun _ => ?_)
      | refine br_bne (fun _ => ?_) (fun _ => ?_)
      | refine br_holds (fun _ => ?_) (fun _ => ?_)
      | refine ⟨PreOk.mk ?_ rfl, ?_⟩
      | refine ⟨idx_ok _ _ _ rfl (by omega) (by omega), ?_⟩
      | refine ⟨okSh_ok _ _ _ (fun _ => rfl) (by omega) (by omega), ?_⟩
      | refine ⟨okSh_okD _ _ _ _ (fun _ => rfl) (by omega) (by omega), ?_⟩
      | refine ⟨aload_ok _ _ rfl (fun _ => rfl) (by omega) (by omega), ?_⟩
      | refine ⟨aload_okD _ _ _ rfl (fun _ => rfl) (by omega) (by omega), ?_⟩
      | refine ⟨astore_ok (by assumption) rfl (by omega) (by omega) (by decide), ?_⟩
      | refine ⟨app_ok (by assumption) rfl rfl (by simp only [List.length_cons, List.length_nil]; omega), ?_⟩
      | refine need_holds ?_ fun _ => ?_
      | refine all_holds fun y hy => ?_
      | refine ret_eq ?_
  all_goals try omega
  all_goals exact l_mk02 l w win r0 _ _ _ ⟨by omega, by omega, by omega, by omega, by omega, by omega, by omega⟩ hwin (by omega) (by omega) (by omega) (by omega)
theorem l_mk00 (l : List Int) (w win pub sec : Int) (hr : HRegs w 0 0 0 0) (hwin : 1 ≤ win ∧ win ≤ 3) (hp : pub = 0) (hs : sec = 0) (hp2 : 0 ≤ pub ∧ pub ≤ 2) (hs2 : 0 ≤ sec ∧ sec ≤ 2) : (a_make.at_ 0 (F_mk0 l w win 0 0 0 0 pub sec 0)).holds s_make.cx a_make.rs MkQ := by
  have hw := hr.hw
  refine at_of_round s_make_sound (m := 400) ?_
  rw [t_mk00]
  simp only [asRows_sl, asInt_int, asBool_bool, asStr_str, listOf_rowsOn, List.drop_zero, Prg.eta, Sta.eta, rowsOn_length, getD_drop, Nat.reduceAdd, rd_int, rd_PMem_name, rd_PMem_secret, rd_PMem_n, rd_PLabel_name, rd_PLabel_at_, rd_Ins_kind, rd_Ins_op, rd_Ins_d, rd_Ins_aR, rd_Ins_aN, rd_Ins_bR, rd_Ins_bN, rd_Ins_name, rd_Ins_target, rd_Ent_pc, rd_Ent_val, rd_Ent_addr, rd_Ent_fro, rd_Ent_next, rd_Ent_done, rd_Ent_known, rd_Ent_fault, rd_Place_reg, rd_Place_n, rd_Place_secret, rd_Obs_kind, rd_Obs_at_, rd_Dir_kind, rd_Dir_n]
  simp only [and3]
  rw [wrap_small (pub + w) (by omega) (by omega), wrap_small (sec + w) (by omega) (by omega)]
  have h1 := tabR (Int.fdiv (kS l 1) 1 % 4).toNat (by omega)
  refine ⟨PreOk.mk (by dsimp only [c_mkk]; omega) rfl, by decide, ⟨by omega, by omega⟩, ⟨by omega, h1.2.1, h1.2.2⟩, ?_⟩
  obtain ⟨h2, _⟩ := h1
  revert h2
  generalize asInt (List.getD (rowAt _ (Int.fdiv (kS l 1) 1 % 4).toNat) 0 D.nilp) = kd
  intro h2
  have e1 := br11 w
  have e2 := br12 w
  have e3 := br21 w
  have e4 := br22 w
  have e5 := br10 w
  have e6 := br20 w
  obtain ⟨hw', g0, g1, g2, g3, gp, gs⟩ := hr
  rcases h2 with rfl | rfl | rfl
  all_goals
    repeat' first
      | refine br_not ?_
      | refine br_dec (fun _ => ?_) (fun _ => ?_)
      | refine br_beq (fun _ => ?_) (fun _ => ?_)
      | refine br_bne (fun _ => ?_) (fun _ => ?_)
      | refine br_holds (fun _ => ?_) (fun _ => ?_)
      | refine ⟨PreOk.mk ?_ rfl, ?_⟩
      | refine ⟨idx_ok _ _ _ rfl (by omega) (by omega), ?_⟩
      | refine ⟨okSh_ok _ _ _ (fun _ => rfl) (by omega) (by omega), ?_⟩
      | refine ⟨okSh_okD _ _ _ _ (fun _ => rfl) (by omega) (by omega), ?_⟩
      | refine ⟨aload_ok _ _ rfl (fun _ => rfl) (by omega) (by omega), ?_⟩
      | refine ⟨aload_okD _ _ _ rfl (fun _ => rfl) (by omega) (by omega), ?_⟩
      | refine ⟨astore_ok (by assumption) rfl (by omega) (by omega) (by decide), ?_⟩
      | refine ⟨app_ok (by assumption) rfl rfl (by simp only [List.length_cons, List.length_nil]; omega), ?_⟩
      | refine need_holds ?_ fun _ => ?_
      | refine all_holds fun y hy => ?_
      | refine ret_eq ?_
  all_goals try omega
  all_goals exact l_mk01 l w win _ _ _ ⟨by omega, by omega, by omega, by omega, by omega, by omega, by omega⟩ hwin (by omega) (by omega) (by omega) (by omega)
theorem x_make (l : List Int) : ∃ r, (MkQ) r ∧ ACalls Try.prog 23 [al l] r := by
  refine acalls_some s_make_sound (fn := Try.f23) (a := a_make) (nargs := 1) (tbl := [(5, [2, 3, 4, 5, 6, 7]), (21, [2, 3, 4, 8, 9, 3000256007000900007003, 3000256008000900008002, 3000256009000900009009]), (25, [2, 3, 4, 8, 10, 3000256007000900007003, 3000256008000900008002, 3000256009000900009009])]) (by kernel_rfl) (by kernel_rfl) rfl (m := 400) ?_
  show VC.holds _ _ _ (a_make.start s_make 400 [al l])
  rw [t_make]
  try simp only [asRows_sl, asInt_int, asBool_bool, asStr_str, listOf_rowsOn, List.drop_zero, Prg.eta, Sta.eta, rowsOn_length, getD_drop, Nat.reduceAdd, rd_int, rd_PMem_name, rd_PMem_secret, rd_PMem_n, rd_PLabel_name, rd_PLabel_at_, rd_Ins_kind, rd_Ins_op, rd_Ins_d, rd_Ins_aR, rd_Ins_aN, rd_Ins_bR, rd_Ins_bN, rd_Ins_name, rd_Ins_target, rd_Ent_pc, rd_Ent_val, rd_Ent_addr, rd_Ent_fro, rd_Ent_next, rd_Ent_done, rd_Ent_known, rd_Ent_fault, rd_Place_reg, rd_Place_n, rd_Place_secret, rd_Obs_kind, rd_Obs_at_, rd_Dir_kind, rd_Dir_n]
  simp only [tmod255]
  rw [show ∀ y : Int, bits .and .i64 y 1 = y % 2 from fun y => and1 y]
  rw [wrap_small (kS l 0 % 2 + 1) (by omega) (by omega), wrap_small (Int.fdiv (kS l 0) 2 % 256 % 3 + 1) (by omega) (by omega)]
  refine ⟨PreOk.mk (by dsimp only [c_mkk]; omega) rfl, PreOk.mk (by dsimp only [c_mkk]; omega) rfl, by decide, by decide, ?_⟩
  have e1 := br10 (kS l 0 % 2 + 1)
  have e2 := br20 (kS l 0 % 2 + 1)
  exact l_mk00 l _ _ _ _ ⟨by omega, by omega, by omega, by omega, by omega, by omega, by omega⟩ (by omega) rfl rfl (by omega) (by omega)
noncomputable def makeS (l : List Int) : Prg := pick fun p => WFM p ∧ ACalls Try.prog 23 [al l] (.agg (p.cells.map .d))
theorem makeS_spec (l : List Int) : WFM (makeS l) ∧ ACalls Try.prog 23 [al l] (.agg ((makeS l).cells.map .d)) := by
  obtain ⟨r, ⟨p, h1, rfl⟩, h2⟩ := x_make l
  exact pick_spec (Q := fun p => WFM p ∧ ACalls Try.prog 23 [al l] (.agg (p.cells.map .d))) ⟨p, h1, h2.data⟩
theorem WFM.mems' {p : Prg} (h : WFM p) : Mems p.mems := ⟨by have := h.mems.len; omega, fun m hm => by have := h.mems.n m hm; omega⟩
end Go.Proofs.Ytclabjihjopclaa.Ax
end

section
/- States that are compared: slices.Equal, arch.Still, arch.Same, arch.Low. -/
namespace Go.Proofs.Ytclabjihjopclaa.Ax
open Go.RowKit
set_option linter.unusedVariables false
set_option linter.unusedSimpArgs false
def rdLL : List A → List Int × List Int
  | [.c (.sl r), .c (.sl s)] => (listOf Int r, listOf Int s)
  | _ => default
def c_eqI : FT (List Int × List Int) := ⟨128, fun x => [al x.1, al x.2], rdLL, fun x => x.1.length ≤ 1000000000, fun x => rb (decide (x.1 = x.2)), false, fun x => by simp [al, rdLL]⟩
noncomputable def a_eqI : FnA := (fnA Try.prog Try.f128 2 [(4, [0, 1, 12, 13])]).getD ⟨0, .skip, [], []⟩
def s_eqI : Sp := spT []
theorem s_eqI_sound : s_eqI.sound Try.prog := spT_sound fun e he => by cases he
def F_eqI (a b : List Int) (k : Int) : St := ⟨mkS 26 [(0, vr (rowsOn a)), (1, vr (rowsOn b)), (12, vi (rowsOn a).length), (13, vi k)], []⟩
set_option maxRecDepth 100000 in
theorem t_eqI (a b : List Int) : a_eqI.start s_eqI 400 [al a, al b] =
(VC.br ((↑(List.length (rowsOn a)) : Int) != (↑(List.length (rowsOn b)) : Int))
 (VC.ret (some (RR.c (Rc.d (D.bool false)))))
 (FnA.at_ a_eqI 0 (F_eqI a b (0 : Int)))) := by kernel_rfl
set_option maxRecDepth 100000 in
theorem t_eqI0 (a b : List Int) (k : Int) : a_eqI.round s_eqI 400 0 (F_eqI a b k) =
(VC.br (decide (k < (↑(List.length (rowsOn a)) : Int)))
 (VC.need ((0 : Int) ≤ k ∧ k < (↑(List.length (rowsOn a)) : Int) ∧ List.length (rowAt (rowsOn a) (Int.toNat k)) = (1 : Nat))
 (VC.need (okSh [Kd.int IntKind.i64] (rowAt (rowsOn a) (Int.toNat k)))
 (VC.need ((0 : Int) ≤ k ∧ k < (↑(List.length (rowsOn b)) : Int) ∧ List.length (rowAt (rowsOn b) (Int.toNat k)) = (1 : Nat))
 (VC.need (okSh [Kd.int IntKind.i64] (rowAt (rowsOn b) (Int.toNat k)))
 (VC.br (asInt (List.getD (rowAt (rowsOn a) (Int.toNat k)) (0 : Nat) D.nilp) != asInt (List.getD (rowAt (rowsOn b) (Int.toNat k)) (0 : Nat) D.nilp))
  (VC.ret (some (RR.c (Rc.d (D.bool false)))))
  (FnA.at_ a_eqI 0 (F_eqI a b (IntKind.wrap IntKind.i64 (k + (1 : Int))))))))))
 (VC.ret (some (RR.c (Rc.d (D.bool true)))))) := by kernel_rfl
theorem eq_drop {a b : List Int} {k : Int} (hl : a.length = b.length) (h0 : 0 ≤ k) (h1 : k < a.length) : (a.drop k.toNat = b.drop k.toNat) ↔ rd a k = rd b k ∧ a.drop (k + 1).toNat = b.drop (k + 1).toNat := by
  rw [drop_rd a k h0 h1, drop_rd b k h0 (by omega)]
  simp
theorem rb_le {b c : Bool} (h : b = c) : (rb b).le (rb c) := by subst h; exact rfl
theorem l_eqI0 (a b : List Int) (res : Bool) (hl : a.length = b.length) (hb : a.length ≤ 1000000000) : ∀ i : Int, (fun (i : Int) => 0 ≤ i ∧ i ≤ a.length ∧ decide (a.drop i.toNat = b.drop i.toNat) = res) i → (a_eqI.at_ 0 ((fun (i : Int) => F_eqI a b i) i)).holds s_eqI.cx a_eqI.rs (fun r => r.le (rb res)) := by
  refine loop_rule (a := a_eqI) (j := 0) (m := 400) s_eqI_sound (fun (i : Int) => F_eqI a b i) (fun (i : Int) => 0 ≤ i ∧ i ≤ a.length ∧ decide (a.drop i.toNat = b.drop i.toNat) = res) (fun (i : Int) => ((a.length : Int) - i).toNat) ?_
  rintro k h_inv ih
  try dsimp only at h_inv
  show VC.holds _ _ _ (a_eqI.round s_eqI 400 0 (F_eqI a b k))
  rw [t_eqI0]
  try simp only [asRows_sl, asInt_int, asBool_bool, asStr_str, listOf_rowsOn, List.drop_zero, Prg.eta, Sta.eta, rowsOn_length, getD_drop, Nat.reduceAdd, rd_int, rd_PMem_name, rd_PMem_secret, rd_PMem_n, rd_PLabel_name, rd_PLabel_at_, rd_Ins_kind, rd_Ins_op, rd_Ins_d, rd_Ins_aR, rd_Ins_aN, rd_Ins_bR, rd_Ins_bN, rd_Ins_name, rd_Ins_target, rd_Ent_pc, rd_Ent_val, rd_Ent_addr, rd_Ent_fro, rd_Ent_next, rd_Ent_done, rd_Ent_known, rd_Ent_fault, rd_Place_reg, rd_Place_n, rd_Place_secret, rd_Obs_kind, rd_Obs_at_, rd_Dir_kind, rd_Dir_n]
  obtain ⟨h0, h1, h2⟩ := h_inv
  have w1 : IntKind.wrap .i64 (k + 1) = k + 1 := wrap_small _ (by omega) (by omega)
  rw [w1]
  repeat' first
    | refine br_not ?_
    | refine br_dec (fun _ => ?_) (fun _ => ?_)
    | refine br_beq (fun _ => ?_) (fun _ => ?_)
    | refine br_bne (fun _ => ?_) (fun _ => ?_)
    | refine br_holds (fun _ => ?_) (fun _ => ?_)
    | refine ⟨PreOk.mk ?_ rfl, ?_⟩
    | refine ⟨idx_ok _ _ _ rfl (by omega) (by omega), ?_⟩
    | refine ⟨okSh_ok _ _ _ (fun _ => rfl) (by omega) (by omega), ?_⟩
    | refine ⟨okSh_okD _ _ _ _ (fun _ => rfl) (by omega) (by omega), ?_⟩
    | refine ⟨aload_ok _ _ rfl (fun _ => rfl) (by omega) (by omega), ?_⟩
    | refine ⟨aload_okD _ _ _ rfl (fun _ => rfl) (by omega) (by omega), ?_⟩
    | refine ⟨astore_ok (by assumption) rfl (by omega) (by omega) (by decide), ?_⟩
    | refine ⟨app_ok (by assumption) rfl rfl (by simp only [List.length_cons, List.length_nil]; omega), ?_⟩
    | refine need_holds ?_ fun _ => ?_
    | refine all_holds fun y hy => ?_
    | refine ret_le ?_
    | refine ih _ ?_ ?_
  · refine ⟨by omega, by omega, ?_⟩
    rw [← h2]
    exact decide_eq_decide.2 ⟨fun h => (eq_drop hl h0 ‹_›).2 ⟨‹_›, h⟩, fun h => ((eq_drop hl h0 ‹_›).1 h).2⟩
  · omega
  · refine rb_le ?_
    rw [← h2]
    exact (decide_eq_false fun h => absurd ((eq_drop hl h0 ‹_›).1 h).1 ‹_›).symm
  · refine rb_le ?_
    have hk : k.toNat = a.length := by omega
    rw [← h2, hk, List.drop_length, hl, List.drop_length]
    rfl
theorem c_eqI_good : c_eqI.fe.Good Try.prog := by
  refine FT.good c_eqI ⟨Try.f128, by kernel_rfl, by decide +kernel, by kernel_rfl⟩ (fun ⟨a, b⟩ => by first | rfl | simp [c_eqI, rrRef, rnewI, rnewE, rstab, rplaces, ri, rb, rib, Sta.fresh]) fun ⟨a, b⟩ hp => ?_
  refine acalls_le s_eqI_sound (fn := Try.f128) (a := a_eqI) (nargs := 2) (tbl := [(4, [0, 1, 12, 13])]) (by kernel_rfl) (by kernel_rfl) rfl (m := 400) ?_
  show VC.holds _ _ _ (a_eqI.start s_eqI 400 [al a, al b])
  rw [t_eqI]
  try simp only [asRows_sl, asInt_int, asBool_bool, asStr_str, listOf_rowsOn, List.drop_zero, Prg.eta, Sta.eta, rowsOn_length, getD_drop, Nat.reduceAdd, rd_int, rd_PMem_name, rd_PMem_secret, rd_PMem_n, rd_PLabel_name, rd_PLabel_at_, rd_Ins_kind, rd_Ins_op, rd_Ins_d, rd_Ins_aR, rd_Ins_aN, rd_Ins_bR, rd_Ins_bN, rd_Ins_name, rd_Ins_target, rd_Ent_pc, rd_Ent_val, rd_Ent_addr, rd_Ent_fro, rd_Ent_next, rd_Ent_done, rd_Ent_known, rd_Ent_fault, rd_Place_reg, rd_Place_n, rd_Place_secret, rd_Obs_kind, rd_Obs_at_, rd_Dir_kind, rd_Dir_n]
  try simp only [c_eqI] at hp
  repeat' first
    | refine br_not ?_
    | refine br_dec (fun _ => ?_) (fun _ => ?_)
    | refine br_beq (fun _ => ?_) (fun _ => ?_)
    | refine br_bne (fun _ => ?_) (fun _ => ?_)
    | refine br_holds (fun _ => ?_) (fun _ => ?_)
    | refine ⟨PreOk.mk ?_ rfl, ?_⟩
    | refine ⟨idx_ok _ _ _ rfl (by omega) (by omega), ?_⟩
    | refine ⟨okSh_ok _ _ _ (fun _ => rfl) (by omega) (by omega), ?_⟩
    | refine ⟨okSh_okD _ _ _ _ (fun _ => rfl) (by omega) (by omega), ?_⟩
    | refine ⟨aload_ok _ _ rfl (fun _ => rfl) (by omega) (by omega), ?_⟩
    | refine ⟨aload_okD _ _ _ rfl (fun _ => rfl) (by omega) (by omega), ?_⟩
    | refine ⟨astore_ok (by assumption) rfl (by omega) (by omega) (by decide), ?_⟩
    | refine ⟨app_ok (by assumption) rfl rfl (by simp only [List.length_cons, List.length_nil]; omega), ?_⟩
    | refine need_holds ?_ fun _ => ?_
    | refine all_holds fun y hy => ?_
    | refine ret_le ?_
  · have e : c_eqI.ans (a, b) = rb (decide (a = b)) := rfl
    rw [e]
    exact l_eqI0 a b _ (by omega) hp 0 ⟨by omega, by omega, by simp⟩
  · exact rb_le (decide_eq_false fun h => by have h : a = b := h; subst h; omega).symm
def as_ (s : Sta) : A := .agg s.cells
def rdS : List A → Sta × Unit
  | [.agg l] => (Sta.of l, ())
  | _ => default
def rdSS : List A → Sta × Sta
  | [.agg l, .agg m] => (Sta.of l, Sta.of m)
  | _ => default
def rdPSS : List A → Prg × Sta × Sta
  | [.agg p, .agg l, .agg m] => (Prg.of p, Sta.of l, Sta.of m)
  | _ => default
/-- A state that can be held. -/
def SmallS (s : Sta) : Prop := s.mem.length ≤ 1000000 ∧ s.stack.length ≤ 1000000
def c_aStill : FT (Sta × Unit) := ⟨87, fun s => [as_ s.1], rdS, fun s => SmallS s.1, fun s => .agg s.1.fresh, false, fun s => by simp [as_, rdS]⟩
noncomputable def a_aStill : FnA := (fnA Try.prog Try.f87 1 []).getD ⟨0, .skip, [], []⟩
def s_aStill : Sp := spT [c_cloneI.fe]
theorem s_aStill_sound : s_aStill.sound Try.prog := spT_sound fun e he => by
  simp only [List.mem_cons, List.not_mem_nil, or_false] at he
  rcases he with rfl
  · exact c_cloneI_good
set_option maxRecDepth 100000 in
theorem t_aStill (s : Sta) : a_aStill.start s_aStill 400 [as_ s] =
(VC.need (PreOk c_cloneI (s.mem, ()) [A.c (D.sl (rowsOn s.mem))])
(VC.need (PreOk c_cloneI (s.stack, ()) [A.c (D.sl (rowsOn s.stack))])
(VC.ret (some (RR.agg [Rc.d (D.int IntKind.i64 s.r0), Rc.d (D.int IntKind.i64 s.r1), Rc.d (D.int IntKind.i64 s.r2), Rc.d (D.int IntKind.i64 s.r3), Rc.new (1 : Nat) (rowsOn (listOf Int (rowsOn s.mem))), Rc.new (1 : Nat) (rowsOn (listOf Int (rowsOn s.stack))), Rc.d (D.int IntKind.i64 s.pc)]))))) := by kernel_rfl
theorem agg_refl (a : List Rc) : (RR.agg a).le (.agg a) := Rc.les_refl a
theorem agg_le {a b : List Rc} (h : Rc.les a b) : (RR.agg a).le (.agg b) := h
theorem c_aStill_good : c_aStill.fe.Good Try.prog := by
  refine FT.good c_aStill ⟨Try.f87, by kernel_rfl, by decide +kernel, by kernel_rfl⟩ (fun ⟨s, u⟩ => by first | rfl | simp [c_aStill, rrRef, rnewI, rnewE, rstab, rplaces, ri, rb, rib, Sta.fresh]) fun ⟨s, u⟩ hp => ?_
  refine acalls_le s_aStill_sound (fn := Try.f87) (a := a_aStill) (nargs := 1) (tbl := []) (by kernel_rfl) (by kernel_rfl) rfl (m := 400) ?_
  show VC.holds _ _ _ (a_aStill.start s_aStill 400 [as_ s])
  rw [t_aStill]
  try simp only [asRows_sl, asInt_int, asBool_bool, asStr_str, listOf_rowsOn, List.drop_zero, Prg.eta, Sta.eta, rowsOn_length, getD_drop, Nat.reduceAdd, rd_int, rd_PMem_name, rd_PMem_secret, rd_PMem_n, rd_PLabel_name, rd_PLabel_at_, rd_Ins_kind, rd_Ins_op, rd_Ins_d, rd_Ins_aR, rd_Ins_aN, rd_Ins_bR, rd_Ins_bN, rd_Ins_name, rd_Ins_target, rd_Ent_pc, rd_Ent_val, rd_Ent_addr, rd_Ent_fro, rd_Ent_next, rd_Ent_done, rd_Ent_known, rd_Ent_fault, rd_Place_reg, rd_Place_n, rd_Place_secret, rd_Obs_kind, rd_Obs_at_, rd_Dir_kind, rd_Dir_n]
  try simp only [c_aStill] at hp
  obtain ⟨h1, h2⟩ := hp
  repeat' first
    | refine br_not ?_
    | refine br_dec (fun _ => ?_) (fun _ => ?_)
    | refine br_beq (fun _ => ?_) (fun _ => ?_)
    | refine br_bne (fun _ => ?_) (fun _ => ?_)
    | refine br_holds (fun _ => ?_) (fun _ => ?_)
    | refine ⟨PreOk.mk ?_ rfl, ?_⟩
    | refine ⟨idx_ok _ _ _ rfl (by omega) (by omega), ?_⟩
    | refine ⟨okSh_ok _ _ _ (fun _ => rfl) (by omega) (by omega), ?_⟩
    | refine ⟨okSh_okD _ _ _ _ (fun _ => rfl) (by omega) (by omega), ?_⟩
    | refine ⟨aload_ok _ _ rfl (fun _ => rfl) (by omega) (by omega), ?_⟩
    | refine ⟨aload_okD _ _ _ rfl (fun _ => rfl) (by omega) (by omega), ?_⟩
    | refine ⟨astore_ok (by assumption) rfl (by omega) (by omega) (by decide), ?_⟩
    | refine ⟨app_ok (by assumption) rfl rfl (by simp only [List.length_cons, List.length_nil]; omega), ?_⟩
    | refine need_holds ?_ fun _ => ?_
    | refine all_holds fun y hy => ?_
    | refine ret_le ?_
  · show s.mem.length ≤ 1000000000
    omega
  · show s.stack.length ≤ 1000000000
    omega
  · exact agg_refl _
def c_aSame : FT (Sta × Sta) := ⟨88, fun x => [as_ x.1, as_ x.2], rdSS, fun x => SmallS x.1, fun x => rb (decide (x.1 = x.2)), false, fun s => by simp [as_, rdSS]⟩
noncomputable def a_aSame : FnA := (fnA Try.prog Try.f88 2 []).getD ⟨0, .skip, [], []⟩
def s_aSame : Sp := spT [c_eqI.fe]
theorem s_aSame_sound : s_aSame.sound Try.prog := spT_sound fun e he => by
  simp only [List.mem_cons, List.not_mem_nil, or_false] at he
  rcases he with rfl
  · exact c_eqI_good
set_option maxRecDepth 100000 in
theorem t_aSame (s t : Sta) : a_aSame.start s_aSame 400 [as_ s, as_ t] =
(VC.br (if false = true then !(s.r0 == t.r0 && (s.r1 == t.r1 && (s.r2 == t.r2 && (s.r3 == t.r3 && true)))) else s.r0 == t.r0 && (s.r1 == t.r1 && (s.r2 == t.r2 && (s.r3 == t.r3 && true))))
 (VC.need (PreOk c_eqI (s.mem, t.mem) [A.c (D.sl (rowsOn s.mem)), A.c (D.sl (rowsOn t.mem))])
 (VC.br (decide (listOf Int (rowsOn s.mem) = listOf Int (rowsOn t.mem)))
  (VC.need (PreOk c_eqI (s.stack, t.stack) [A.c (D.sl (rowsOn s.stack)), A.c (D.sl (rowsOn t.stack))])
  (VC.br (decide (listOf Int (rowsOn s.stack) = listOf Int (rowsOn t.stack)))
   (VC.ret (some (RR.c (Rc.d (D.bool (s.pc == t.pc))))))
   (VC.ret (some (RR.c (Rc.d (D.bool false)))))))
  (VC.ret (some (RR.c (Rc.d (D.bool false)))))))
 (VC.ret (some (RR.c (Rc.d (D.bool false)))))) := by kernel_rfl
theorem Sta.eq_iff {a b : Sta} : a = b ↔ a.r0 = b.r0 ∧ a.r1 = b.r1 ∧ a.r2 = b.r2 ∧ a.r3 = b.r3 ∧ a.mem = b.mem ∧ a.stack = b.stack ∧ a.pc = b.pc := by
  obtain ⟨_, _, _, _, _, _, _⟩ := a
  obtain ⟨_, _, _, _, _, _, _⟩ := b
  simp
theorem c_aSame_good : c_aSame.fe.Good Try.prog := by
  refine FT.good c_aSame ⟨Try.f88, by kernel_rfl, by decide +kernel, by kernel_rfl⟩ (fun ⟨s, t⟩ => by first | rfl | simp [c_aSame, rrRef, rnewI, rnewE, rstab, rplaces, ri, rb, rib, Sta.fresh]) fun ⟨s, t⟩ hp => ?_
  refine acalls_le s_aSame_sound (fn := Try.f88) (a := a_aSame) (nargs := 2) (tbl := []) (by kernel_rfl) (by kernel_rfl) rfl (m := 400) ?_
  show VC.holds _ _ _ (a_aSame.start s_aSame 400 [as_ s, as_ t])
  rw [t_aSame]
  try simp only [asRows_sl, asInt_int, asBool_bool, asStr_str, listOf_rowsOn, List.drop_zero, Prg.eta, Sta.eta, rowsOn_length, getD_drop, Nat.reduceAdd, rd_int, rd_PMem_name, rd_PMem_secret, rd_PMem_n, rd_PLabel_name, rd_PLabel_at_, rd_Ins_kind, rd_Ins_op, rd_Ins_d, rd_Ins_aR, rd_Ins_aN, rd_Ins_bR, rd_Ins_bN, rd_Ins_name, rd_Ins_target, rd_Ent_pc, rd_Ent_val, rd_Ent_addr, rd_Ent_fro, rd_Ent_next, rd_Ent_done, rd_Ent_known, rd_Ent_fault, rd_Place_reg, rd_Place_n, rd_Place_secret, rd_Obs_kind, rd_Obs_at_, rd_Dir_kind, rd_Dir_n]
  try simp only [c_aSame] at hp
  obtain ⟨h1, h2⟩ := hp
  have e : c_aSame.ans (s, t) = rb (decide (s = t)) := rfl
  rw [e]
  simp only [Bool.false_eq_true, if_false, Bool.and_true]
  repeat' first
    | refine br_not ?_
    | refine br_dec (fun _ => ?_) (fun _ => ?_)
    | refine br_beq (fun _ => ?_) (fun _ => ?_)
    | refine br_bne (fun _ => ?_) (fun _ => ?_)
    | refine br_holds (fun _ => ?_) (fun _ => ?_)
    | refine ⟨PreOk.mk ?_ rfl, ?_⟩
    | refine ⟨idx_ok _ _ _ rfl (by omega) (by omega), ?_⟩
    | refine ⟨okSh_ok _ _ _ (fun _ => rfl) (by omega) (by omega), ?_⟩
    | refine ⟨okSh_okD _ _ _ _ (fun _ => rfl) (by omega) (by omega), ?_⟩
    | refine ⟨aload_ok _ _ rfl (fun _ => rfl) (by omega) (by omega), ?_⟩
    | refine ⟨aload_okD _ _ _ rfl (fun _ => rfl) (by omega) (by omega), ?_⟩
    | refine ⟨astore_ok (by assumption) rfl (by omega) (by omega) (by decide), ?_⟩
    | refine ⟨app_ok (by assumption) rfl rfl (by simp only [List.length_cons, List.length_nil]; omega), ?_⟩
    | refine need_holds ?_ fun _ => ?_
    | refine all_holds fun y hy => ?_
    | refine ret_le ?_
  all_goals try (dsimp only [c_eqI]; omega)
  all_goals refine rb_le ?_
  all_goals clear e
  all_goals rw [Bool.eq_iff_iff, decide_eq_true_iff, Sta.eq_iff]
  all_goals simp_all
/-- What is secret, as another state has it. -/
def seenS (t s : Sta) (x : Place) : Sta := if x.secret then putPlace s x (if x.reg then t.reg x.n else rd t.mem x.n) else s
def lowS (p : Prg) (s t : Sta) : Bool := if (s.mem.length : Int) = cellsS p.mems ∧ (t.mem.length : Int) = cellsS p.mems then decide ((placesS p).foldl (seenS t) s = t) else decide (s = t)
def c_aLow : FT (Prg × Sta × Sta) := ⟨40, fun x => [ap x.1, as_ x.2.1, as_ x.2.2], rdPSS, fun x => Mems x.1.mems ∧ SmallS x.2.1 ∧ SmallS x.2.2, fun x => rb (lowS x.1 x.2.1 x.2.2), false, fun s => by simp [as_, ap, rdPSS]⟩
noncomputable def a_aLow : FnA := (fnA Try.prog Try.f40 3 [(5, [4, 5, 29, 30, 31])]).getD ⟨0, .skip, [], []⟩
def s_aLow : Sp := spT [c_aStill.fe, c_aCells.fe, c_aPlaces.fe, c_aSame.fe]
theorem s_aLow_sound : s_aLow.sound Try.prog := spT_sound fun e he => by
  simp only [List.mem_cons, List.not_mem_nil, or_false] at he
  rcases he with rfl | rfl | rfl | rfl
  · exact c_aStill_good
  · exact c_aCells_good
  · exact c_aPlaces_good
  · exact c_aSame_good
def F_aLow (r0 r1 r2 r3 : Int) (M : List (List D)) (n : Nat) (stk : List Int) (pc : Int) (t : Sta) (q : List Place) (k : Int) : St := ⟨mkS 66 [(4, vp 256), (5, vp 320), (29, vo 1856 (rowsOn q).length), (30, vi (rowsOn q).length), (31, vi k)],
  [(256, bc [.d (.int .i64 r0), .d (.int .i64 r1), .d (.int .i64 r2), .d (.int .i64 r3), .own 644 1 n, .own 645 1 (rowsOn stk).length, .d (.int .i64 pc)]), (320, bx t.cells), (644, ba 1 M), (645, ba 1 (rowsOn stk)), (1856, ba 3 (rowsOn q))]⟩
set_option maxRecDepth 100000 in
theorem t_aLow (p : Prg) (s t : Sta) : a_aLow.start s_aLow 400 [ap p, as_ s, as_ t] =
(VC.need (PreOk c_aStill (Sta.of (Sta.cells s), ()) [A.agg (Sta.cells s)])
(VC.need (PreOk c_aCells p [A.agg (Prg.cells p)])
(VC.br ((↑(List.length (rowsOn (listOf Int (rowsOn s.mem)))) : Int) != cellsS (listOf PMem (rowsOn p.mems)))
 (VC.need (PreOk c_aSame (Sta.of (Sta.cells (Sta.of [D.int IntKind.i64 s.r0, D.int IntKind.i64 s.r1, D.int IntKind.i64 s.r2, D.int IntKind.i64 s.r3, D.sl (rowsOn s.mem), D.sl (rowsOn s.stack), D.int IntKind.i64 s.pc], ()).fst), Sta.of (Sta.cells t)) [A.agg (Sta.cells (Sta.of [D.int IntKind.i64 s.r0, D.int IntKind.i64 s.r1, D.int IntKind.i64 s.r2, D.int IntKind.i64 s.r3, D.sl (rowsOn s.mem), D.sl (rowsOn s.stack), D.int IntKind.i64 s.pc], ()).fst), A.agg (Sta.cells t)])
 (VC.ret (some (RR.c (Rc.d (D.bool (decide (Sta.of (Sta.cells (Sta.of [D.int IntKind.i64 s.r0, D.int IntKind.i64 s.r1, D.int IntKind.i64 s.r2, D.int IntKind.i64 s.r3, D.sl (rowsOn s.mem), D.sl (rowsOn s.stack), D.int IntKind.i64 s.pc], ()).fst) = Sta.of (Sta.cells t)))))))))
 (VC.need (PreOk c_aCells p [A.agg (Prg.cells p)])
 (VC.br ((↑(List.length (rowsOn t.mem)) : Int) != cellsS (listOf PMem (rowsOn p.mems)))
  (VC.need (PreOk c_aSame (Sta.of (Sta.cells (Sta.of [D.int IntKind.i64 s.r0, D.int IntKind.i64 s.r1, D.int IntKind.i64 s.r2, D.int IntKind.i64 s.r3, D.sl (rowsOn s.mem), D.sl (rowsOn s.stack), D.int IntKind.i64 s.pc], ()).fst), Sta.of (Sta.cells t)) [A.agg (Sta.cells (Sta.of [D.int IntKind.i64 s.r0, D.int IntKind.i64 s.r1, D.int IntKind.i64 s.r2, D.int IntKind.i64 s.r3, D.sl (rowsOn s.mem), D.sl (rowsOn s.stack), D.int IntKind.i64 s.pc], ()).fst), A.agg (Sta.cells t)])
  (VC.ret (some (RR.c (Rc.d (D.bool (decide (Sta.of (Sta.cells (Sta.of [D.int IntKind.i64 s.r0, D.int IntKind.i64 s.r1, D.int IntKind.i64 s.r2, D.int IntKind.i64 s.r3, D.sl (rowsOn s.mem), D.sl (rowsOn s.stack), D.int IntKind.i64 s.pc], ()).fst) = Sta.of (Sta.cells t)))))))))
  (VC.need (PreOk c_aPlaces p [A.agg (Prg.cells p)])
  (FnA.at_ a_aLow 0 (F_aLow s.r0 s.r1 s.r2 s.r3 (rowsOn (listOf Int (rowsOn s.mem))) (List.length (rowsOn (listOf Int (rowsOn s.mem)))) (listOf Int (rowsOn s.stack)) s.pc t (placesS { w := p.w, window := p.window, fuel := p.fuel, r0 := p.r0, r1 := p.r1, r2 := p.r2, r3 := p.r3, mems := listOf PMem (rowsOn p.mems), labels := listOf PLabel (rowsOn p.labels), ins := listOf Ins (rowsOn p.ins) }) (0 : Int))))))))) := by kernel_rfl
set_option maxRecDepth 100000 in
theorem t_aLow0 (r0 r1 r2 r3 : Int) (M : List (List D)) (n : Nat) (stk : List Int) (pc : Int) (t : Sta) (q : List Place) (k : Int) : a_aLow.round s_aLow 400 0 (F_aLow r0 r1 r2 r3 M n stk pc t q k) =
(VC.br (decide (k < (↑(List.length (rowsOn q)) : Int)))
 (VC.need ((0 : Int) ≤ k ∧ k < (↑(List.length (rowsOn q)) : Int))
 (VC.need (Int.toNat k < List.length (rowsOn q) ∧ List.length (rowAt (rowsOn q) (Int.toNat k)) = (3 : Nat) ∧ okSh [Kd.bool, Kd.int IntKind.i64, Kd.bool] (List.drop (0 : Nat) (rowAt (rowsOn q) (Int.toNat k))))
 (VC.br (!asBool (List.getD (List.drop (0 : Nat) (rowAt (rowsOn q) (Int.toNat k))) (2 : Nat) D.nilp))
  (FnA.at_ a_aLow 0 (F_aLow r0 r1 r2 r3 M n stk pc t q (IntKind.wrap IntKind.i64 (k + (1 : Int)))))
  (VC.br (asBool (List.getD (List.drop (0 : Nat) (rowAt (rowsOn q) (Int.toNat k))) (0 : Nat) D.nilp))
   (VC.br (decide (asInt (List.getD (List.drop (0 : Nat) (rowAt (rowsOn q) (Int.toNat k))) (1 : Nat) D.nilp) = (0 : Int)))
    (VC.br (decide (asInt (List.getD (List.drop (0 : Nat) (rowAt (rowsOn q) (Int.toNat k))) (1 : Nat) D.nilp) = (0 : Int)))
     (FnA.at_ a_aLow 0 (F_aLow t.r0 r1 r2 r3 M n stk pc t q (IntKind.wrap IntKind.i64 (k + (1 : Int)))))
     (VC.br (decide (asInt (List.getD (List.drop (0 : Nat) (rowAt (rowsOn q) (Int.toNat k))) (1 : Nat) D.nilp) = (1 : Int)))
      (FnA.at_ a_aLow 0 (F_aLow r0 t.r0 r2 r3 M n stk pc t q (IntKind.wrap IntKind.i64 (k + (1 : Int)))))
      (VC.br (decide (asInt (List.getD (List.drop (0 : Nat) (rowAt (rowsOn q) (Int.toNat k))) (1 : Nat) D.nilp) = (2 : Int)))
       (FnA.at_ a_aLow 0 (F_aLow r0 r1 t.r0 r3 M n stk pc t q (IntKind.wrap IntKind.i64 (k + (1 : Int)))))
       (VC.br (decide (asInt (List.getD (List.drop (0 : Nat) (rowAt (rowsOn q) (Int.toNat k))) (1 : Nat) D.nilp) = (3 : Int)))
        (FnA.at_ a_aLow 0 (F_aLow r0 r1 r2 t.r0 M n stk pc t q (IntKind.wrap IntKind.i64 (k + (1 : Int)))))
        VC.ff))))
    (VC.br (decide (asInt (List.getD (List.drop (0 : Nat) (rowAt (rowsOn q) (Int.toNat k))) (1 : Nat) D.nilp) = (1 : Int)))
     (VC.br (decide (asInt (List.getD (List.drop (0 : Nat) (rowAt (rowsOn q) (Int.toNat k))) (1 : Nat) D.nilp) = (0 : Int)))
      (FnA.at_ a_aLow 0 (F_aLow t.r1 r1 r2 r3 M n stk pc t q (IntKind.wrap IntKind.i64 (k + (1 : Int)))))
      (VC.br (decide (asInt (List.getD (List.drop (0 : Nat) (rowAt (rowsOn q) (Int.toNat k))) (1 : Nat) D.nilp) = (1 : Int)))
       (FnA.at_ a_aLow 0 (F_aLow r0 t.r1 r2 r3 M n stk pc t q (IntKind.wrap IntKind.i64 (k + (1 : Int)))))
       (VC.br (decide (asInt (List.getD (List.drop (0 : Nat) (rowAt (rowsOn q) (Int.toNat k))) (1 : Nat) D.nilp) = (2 : Int)))
        (FnA.at_ a_aLow 0 (F_aLow r0 r1 t.r1 r3 M n stk pc t q (IntKind.wrap IntKind.i64 (k + (1 : Int)))))
        (VC.br (decide (asInt (List.getD (List.drop (0 : Nat) (rowAt (rowsOn q) (Int.toNat k))) (1 : Nat) D.nilp) = (3 : Int)))
         (FnA.at_ a_aLow 0 (F_aLow r0 r1 r2 t.r1 M n stk pc t q (IntKind.wrap IntKind.i64 (k + (1 : Int)))))
         VC.ff))))
     (VC.br (decide (asInt (List.getD (List.drop (0 : Nat) (rowAt (rowsOn q) (Int.toNat k))) (1 : Nat) D.nilp) = (2 : Int)))
      (VC.br (decide (asInt (List.getD (List.drop (0 : Nat) (rowAt (rowsOn q) (Int.toNat k))) (1 : Nat) D.nilp) = (0 : Int)))
       (FnA.at_ a_aLow 0 (F_aLow t.r2 r1 r2 r3 M n stk pc t q (IntKind.wrap IntKind.i64 (k + (1 : Int)))))
       (VC.br (decide (asInt (List.getD (List.drop (0 : Nat) (rowAt (rowsOn q) (Int.toNat k))) (1 : Nat) D.nilp) = (1 : Int)))
        (FnA.at_ a_aLow 0 (F_aLow r0 t.r2 r2 r3 M n stk pc t q (IntKind.wrap IntKind.i64 (k + (1 : Int)))))
        (VC.br (decide (asInt (List.getD (List.drop (0 : Nat) (rowAt (rowsOn q) (Int.toNat k))) (1 : Nat) D.nilp) = (2 : Int)))
         (FnA.at_ a_aLow 0 (F_aLow r0 r1 t.r2 r3 M n stk pc t q (IntKind.wrap IntKind.i64 (k + (1 : Int)))))
         (VC.br (decide (asInt (List.getD (List.drop (0 : Nat) (rowAt (rowsOn q) (Int.toNat k))) (1 : Nat) D.nilp) = (3 : Int)))
          (FnA.at_ a_aLow 0 (F_aLow r0 r1 r2 t.r2 M n stk pc t q (IntKind.wrap IntKind.i64 (k + (1 : Int)))))
          VC.ff))))
      (VC.br (decide (asInt (List.getD (List.drop (0 : Nat) (rowAt (rowsOn q) (Int.toNat k))) (1 : Nat) D.nilp) = (3 : Int)))
       (VC.br (decide (asInt (List.getD (List.drop (0 : Nat) (rowAt (rowsOn q) (Int.toNat k))) (1 : Nat) D.nilp) = (0 : Int)))
        (FnA.at_ a_aLow 0 (F_aLow t.r3 r1 r2 r3 M n stk pc t q (IntKind.wrap IntKind.i64 (k + (1 : Int)))))
        (VC.br (decide (asInt (List.getD (List.drop (0 : Nat) (rowAt (rowsOn q) (Int.toNat k))) (1 : Nat) D.nilp) = (1 : Int)))
         (FnA.at_ a_aLow 0 (F_aLow r0 t.r3 r2 r3 M n stk pc t q (IntKind.wrap IntKind.i64 (k + (1 : Int)))))
         (VC.br (decide (asInt (List.getD (List.drop (0 : Nat) (rowAt (rowsOn q) (Int.toNat k))) (1 : Nat) D.nilp) = (2 : Int)))
          (FnA.at_ a_aLow 0 (F_aLow r0 r1 t.r3 r3 M n stk pc t q (IntKind.wrap IntKind.i64 (k + (1 : Int)))))
          (VC.br (decide (asInt (List.getD (List.drop (0 : Nat) (rowAt (rowsOn q) (Int.toNat k))) (1 : Nat) D.nilp) = (3 : Int)))
           (FnA.at_ a_aLow 0 (F_aLow r0 r1 r2 t.r3 M n stk pc t q (IntKind.wrap IntKind.i64 (k + (1 : Int)))))
           VC.ff))))
       VC.ff))))
   (VC.need ((0 : Int) ≤ asInt (List.getD (List.drop (0 : Nat) (rowAt (rowsOn q) (Int.toNat k))) (1 : Nat) D.nilp) ∧ asInt (List.getD (List.drop (0 : Nat) (rowAt (rowsOn q) (Int.toNat k))) (1 : Nat) D.nilp) < (↑(List.length (rowsOn t.mem)) : Int) ∧ List.length (rowAt (rowsOn t.mem) (Int.toNat (asInt (List.getD (List.drop (0 : Nat) (rowAt (rowsOn q) (Int.toNat k))) (1 : Nat) D.nilp)))) = (1 : Nat))
   (VC.need (okSh [Kd.int IntKind.i64] (rowAt (rowsOn t.mem) (Int.toNat (asInt (List.getD (List.drop (0 : Nat) (rowAt (rowsOn q) (Int.toNat k))) (1 : Nat) D.nilp)))))
   (VC.need ((0 : Int) ≤ asInt (List.getD (List.drop (0 : Nat) (rowAt (rowsOn q) (Int.toNat k))) (1 : Nat) D.nilp) ∧ asInt (List.getD (List.drop (0 : Nat) (rowAt (rowsOn q) (Int.toNat k))) (1 : Nat) D.nilp) < (↑n : Int))
   (VC.need (Int.toNat (asInt (List.getD (List.drop (0 : Nat) (rowAt (rowsOn q) (Int.toNat k))) (1 : Nat) D.nilp)) < List.length M ∧ List.length (rowAt M (Int.toNat (asInt (List.getD (List.drop (0 : Nat) (rowAt (rowsOn q) (Int.toNat k))) (1 : Nat) D.nilp)))) = (1 : Nat) ∧ (1 : Nat) ≤ (1 : Nat))
   (FnA.at_ a_aLow 0 (F_aLow r0 r1 r2 r3 (List.set M (Int.toNat (asInt (List.getD (List.drop (0 : Nat) (rowAt (rowsOn q) (Int.toNat k))) (1 : Nat) D.nilp))) (splice (rowAt M (Int.toNat (asInt (List.getD (List.drop (0 : Nat) (rowAt (rowsOn q) (Int.toNat k))) (1 : Nat) D.nilp)))) (0 : Nat) [D.int IntKind.i64 (asInt (List.getD (rowAt (rowsOn t.mem) (Int.toNat (asInt (List.getD (List.drop (0 : Nat) (rowAt (rowsOn q) (Int.toNat k))) (1 : Nat) D.nilp)))) (0 : Nat) D.nilp))])) n stk pc t q (IntKind.wrap IntKind.i64 (k + (1 : Int)))))))))))))
 (VC.need (PreOk c_aSame (Sta.of [D.int IntKind.i64 r0, D.int IntKind.i64 r1, D.int IntKind.i64 r2, D.int IntKind.i64 r3, D.sl M, D.sl (rowsOn stk), D.int IntKind.i64 pc], Sta.of (Sta.cells t)) [A.agg [D.int IntKind.i64 r0, D.int IntKind.i64 r1, D.int IntKind.i64 r2, D.int IntKind.i64 r3, D.sl M, D.sl (rowsOn stk), D.int IntKind.i64 pc], A.agg (Sta.cells t)])
 (VC.ret (some (RR.c (Rc.d (D.bool (decide (Sta.of [D.int IntKind.i64 r0, D.int IntKind.i64 r1, D.int IntKind.i64 r2, D.int IntKind.i64 r3, D.sl M, D.sl (rowsOn stk), D.int IntKind.i64 pc] = Sta.of (Sta.cells t)))))))))) := by kernel_rfl
theorem l_aLow0 (stk : List Int) (pc : Int) (t : Sta) (q : List Place) (c : Int) (fin : Sta) (hq : PlacesOk q c) (hl : q.length ≤ 10000) (hc : c ≤ 1000000) (ht : t.mem.length = c) (hs : stk.length ≤ 1000000) : ∀ i : Int × Int × Int × Int × Int × List (List D) × Nat, (fun (i : Int × Int × Int × Int × Int × List (List D) × Nat) => 0 ≤ i.1 ∧ i.1 ≤ q.length ∧ ∃ mem : List Int, OnL i.2.2.2.2.2.1 i.2.2.2.2.2.2 mem ∧ mem.length = c ∧ (q.drop i.1.toNat).foldl (seenS t) ⟨i.2.1, i.2.2.1, i.2.2.2.1, i.2.2.2.2.1, mem, stk, pc⟩ = fin) i → (a_aLow.at_ 0 ((fun (i : Int × Int × Int × Int × Int × List (List D) × Nat) => F_aLow i.2.1 i.2.2.1 i.2.2.2.1 i.2.2.2.2.1 i.2.2.2.2.2.1 i.2.2.2.2.2.2 stk pc t q i.1) i)).holds s_aLow.cx a_aLow.rs (fun r => r.le (rb (decide (fin = t)))) := by
  refine loop_rule (a := a_aLow) (j := 0) (m := 400) s_aLow_sound (fun (i : Int × Int × Int × Int × Int × List (List D) × Nat) => F_aLow i.2.1 i.2.2.1 i.2.2.2.1 i.2.2.2.2.1 i.2.2.2.2.2.1 i.2.2.2.2.2.2 stk pc t q i.1) (fun (i : Int × Int × Int × Int × Int × List (List D) × Nat) => 0 ≤ i.1 ∧ i.1 ≤ q.length ∧ ∃ mem : List Int, OnL i.2.2.2.2.2.1 i.2.2.2.2.2.2 mem ∧ mem.length = c ∧ (q.drop i.1.toNat).foldl (seenS t) ⟨i.2.1, i.2.2.1, i.2.2.2.1, i.2.2.2.2.1, mem, stk, pc⟩ = fin) (fun (i : Int × Int × Int × Int × Int × List (List D) × Nat) => ((q.length : Int) - i.1).toNat) ?_
  rintro ⟨k, r0, r1, r2, r3, M, n⟩ h_inv ih
  try dsimp only at h_inv
  replace ih := fun (v0 : Int) (v1 : Int) (v2 : Int) (v3 : Int) (v4 : Int) (v5 : List (List D)) (v6 : Nat) => ih (v0, v1, v2, v3, v4, v5, v6)
  try dsimp only at ih
  show VC.holds _ _ _ (a_aLow.round s_aLow 400 0 (F_aLow r0 r1 r2 r3 M n stk pc t q k))
  rw [t_aLow0]
  try simp only [asRows_sl, asInt_int, asBool_bool, asStr_str, listOf_rowsOn, List.drop_zero, Prg.eta, Sta.eta, rowsOn_length, getD_drop, Nat.reduceAdd, rd_int, rd_PMem_name, rd_PMem_secret, rd_PMem_n, rd_PLabel_name, rd_PLabel_at_, rd_Ins_kind, rd_Ins_op, rd_Ins_d, rd_Ins_aR, rd_Ins_aN, rd_Ins_bR, rd_Ins_bN, rd_Ins_name, rd_Ins_target, rd_Ent_pc, rd_Ent_val, rd_Ent_addr, rd_Ent_fro, rd_Ent_next, rd_Ent_done, rd_Ent_known, rd_Ent_fault, rd_Place_reg, rd_Place_n, rd_Place_secret, rd_Obs_kind, rd_Obs_at_, rd_Dir_kind, rd_Dir_n]
  obtain ⟨h0, h1, mem, h2, h3, h4⟩ := h_inv
  have w1 : IntKind.wrap .i64 (k + 1) = k + 1 := wrap_small _ (by omega) (by omega)
  rw [w1]
  repeat' first
    | refine br_not ?_
    | refine br_dec (fun _ => ?_) (fun _ => ?_)
    | refine br_beq (fun _ => ?_) (fun _ => ?_)
    | refine br_bne (fun _ => ?_) (fun _ => ?_)
    | refine br_holds (fun _ => ?_) (fun _ => ?_)
    | refine ⟨PreOk.mk ?_ rfl, ?_⟩
    | refine ⟨idx_ok _ _ _ rfl (by omega) (by omega), ?_⟩
    | refine ⟨okSh_ok _ _ _ (fun _ => rfl) (by omega) (by omega), ?_⟩
    | refine ⟨okSh_okD _ _ _ _ (fun _ => rfl) (by omega) (by omega), ?_⟩
    | refine ⟨aload_ok _ _ rfl (fun _ => rfl) (by omega) (by omega), ?_⟩
    | refine ⟨aload_okD _ _ _ rfl (fun _ => rfl) (by omega) (by omega), ?_⟩
    | refine ⟨astore_ok (by assumption) rfl (by omega) (by omega) (by decide), ?_⟩
    | refine ⟨app_ok (by assumption) rfl rfl (by simp only [List.length_cons, List.length_nil]; omega), ?_⟩
    | refine need_holds ?_ fun _ => ?_
    | refine all_holds fun y hy => ?_
    | refine ret_le ?_
    | refine ih _ _ _ _ _ _ _ ?_ ?_
  all_goals try omega
  all_goals try trivial
  all_goals try have hk : k < q.length := by assumption
  all_goals try have hx := hq _ (rd_mem q k h0 hk)
  all_goals try rw [drop_rd q k h0 hk, List.foldl_cons] at h4
  all_goals try (refine ⟨by omega, by omega, mem, h2, h3, ?_⟩; simpa [seenS, putPlace, Sta.setReg, Sta.reg, *] using h4)
  all_goals try (have := hx.1 ‹_›; omega)
  · have := hx.2 ‹_›
    exact idx_ok _ _ _ rfl (by omega) (by omega)
  · have := hx.2 ‹_›
    have := h2.2
    omega
  · have := hx.2 ‹_›
    refine ⟨by omega, by omega, mem.set (rd q k).n.toNat (rd t.mem (rd q k).n), h2.set (by omega) (by omega) (rd t.mem (rd q k).n), by simpa using h3, ?_⟩
    simpa [seenS, putPlace, Sta.setReg, Sta.reg, *] using h4
  · obtain ⟨rfl, rfl⟩ := h2
    refine PreOk.mk ?_ ?_
    · simp only [Sta.of, listOf_rowsOn]
      exact ⟨by dsimp only; omega, by dsimp only; omega⟩
    · simp [Sta.of, Sta.cells, c_aSame, as_]
  · obtain ⟨rfl, rfl⟩ := h2
    have hk : k.toNat = q.length := by omega
    rw [hk, List.drop_length] at h4
    simp only [List.foldl_nil] at h4
    subst h4
    simp only [Sta.of, listOf_rowsOn, Sta.cells]
    exact rb_le rfl
theorem c_aLow_good : c_aLow.fe.Good Try.prog := by
  refine FT.good c_aLow ⟨Try.f40, by kernel_rfl, by decide +kernel, by kernel_rfl⟩ (fun ⟨p, s, t⟩ => by first | rfl | simp [c_aLow, rrRef, rnewI, rnewE, rstab, rplaces, ri, rb, rib, Sta.fresh]) fun ⟨p, s, t⟩ hp => ?_
  refine acalls_le s_aLow_sound (fn := Try.f40) (a := a_aLow) (nargs := 3) (tbl := [(5, [4, 5, 29, 30, 31])]) (by kernel_rfl) (by kernel_rfl) rfl (m := 400) ?_
  show VC.holds _ _ _ (a_aLow.start s_aLow 400 [ap p, as_ s, as_ t])
  rw [t_aLow]
  try simp only [asRows_sl, asInt_int, asBool_bool, asStr_str, listOf_rowsOn, List.drop_zero, Prg.eta, Sta.eta, rowsOn_length, getD_drop, Nat.reduceAdd, rd_int, rd_PMem_name, rd_PMem_secret, rd_PMem_n, rd_PLabel_name, rd_PLabel_at_, rd_Ins_kind, rd_Ins_op, rd_Ins_d, rd_Ins_aR, rd_Ins_aN, rd_Ins_bR, rd_Ins_bN, rd_Ins_name, rd_Ins_target, rd_Ent_pc, rd_Ent_val, rd_Ent_addr, rd_Ent_fro, rd_Ent_next, rd_Ent_done, rd_Ent_known, rd_Ent_fault, rd_Place_reg, rd_Place_n, rd_Place_secret, rd_Obs_kind, rd_Obs_at_, rd_Dir_kind, rd_Dir_n]
  try simp only [c_aLow] at hp
  obtain ⟨hm, hs, ht⟩ := hp
  have hpl := places_len p hm
  have e : c_aLow.ans (p, s, t) = rb (lowS p s t) := rfl
  rw [e]
  simp only [Sta.of_cells]
  simp only [Sta.of, listOf_rowsOn, Sta.cells]
  repeat' first
    | refine br_not ?_
    | refine br_dec (fun _ => ?_) (fun _ => ?_)
    | refine br_beq (fun _ => ?_) (fun _ => ?_)
    | refine br_bne (fun _ => ?_) (fun _ => ?_)
    | refine br_holds (fun _ => ?_) (fun _ => ?_)
    | refine ⟨PreOk.mk ?_ rfl, ?_⟩
    | refine ⟨idx_ok _ _ _ rfl (by omega) (by omega), ?_⟩
    | refine ⟨okSh_ok _ _ _ (fun _ => rfl) (by omega) (by omega), ?_⟩
    | refine ⟨okSh_okD _ _ _ _ (fun _ => rfl) (by omega) (by omega), ?_⟩
    | refine ⟨aload_ok _ _ rfl (fun _ => rfl) (by omega) (by omega), ?_⟩
    | refine ⟨aload_okD _ _ _ rfl (fun _ => rfl) (by omega) (by omega), ?_⟩
    | refine ⟨astore_ok (by assumption) rfl (by omega) (by omega) (by decide), ?_⟩
    | refine ⟨app_ok (by assumption) rfl rfl (by simp only [List.length_cons, List.length_nil]; omega), ?_⟩
    | refine need_holds ?_ fun _ => ?_
    | refine all_holds fun y hy => ?_
    | refine ret_le ?_
  all_goals try exact hm
  all_goals try exact hs
  · have e2 : lowS p s t = decide ((placesS p).foldl (seenS t) s = t) := if_pos ⟨by omega, by omega⟩
    rw [e2]
    exact l_aLow0 s.stack s.pc t (placesS p) (cellsS p.mems) ((placesS p).foldl (seenS t) s) (places_ok p hm) (by omega) (by omega) (by omega) hs.2 (0, s.r0, s.r1, s.r2, s.r3, _, _) ⟨by simp, by simp, s.mem, ⟨rfl, rfl⟩, by omega, rfl⟩
  · have e2 : lowS p s t = decide (s = t) := if_neg (by omega)
    rw [e2]
    exact rb_le rfl
  · have e2 : lowS p s t = decide (s = t) := if_neg (by omega)
    rw [e2]
    exact rb_le rfl
end Go.Proofs.Ytclabjihjopclaa.Ax
end

section
/- Make's contract; augurylaw7.States. -/
namespace Go.Proofs.Ytclabjihjopclaa.Ax
open Go.RowKit
set_option linter.unusedVariables false
set_option linter.unusedSimpArgs false
noncomputable def c_make : FT (List Int × Unit) := ⟨23, fun l => [al l.1], rdL, fun _ => True, fun l => .agg ((makeS l.1).cells.map .d), true, fun l => by simp [al, rdL]⟩
theorem c_make_good : c_make.fe.Good Try.prog := FT.good c_make ⟨Try.f23, by kernel_rfl, by decide +kernel, by kernel_rfl⟩ (fun _ => rfl) fun l _ => (makeS_spec l.1).2
def rdPLI : List A → Prg × List Int × Int
  | [.agg l, .c (.sl m), .c (.int _ i)] => (Prg.of l, listOf Int m, i)
  | _ => default
def rss (x : Sta × Sta) : RR := .tup [.inr x.1.fresh, .inr x.2.fresh]
/-- So many numbers, the first k of them told. -/
def toldS (n : Nat) (f : Nat → Int) (k : Nat) : List Int := (List.range n).map fun j => if j < k then f j else 0
theorem told_len (n : Nat) (f : Nat → Int) (k : Nat) : (toldS n f k).length = n := by simp [toldS]
theorem told_zero (n : Nat) (f : Nat → Int) : toldS n f 0 = List.replicate n 0 := by
  apply List.ext_getElem <;> simp [toldS]
theorem told_set (n : Nat) (f : Nat → Int) (k : Nat) : (toldS n f k).set k (f k) = toldS n f (k + 1) := by
  apply List.ext_getElem
  · simp [toldS]
  · intro i h1 h2
    simp only [toldS, List.getElem_set, List.getElem_map, List.getElem_range]
    by_cases h : k = i
    · subst h; simp
    · rw [if_neg h]
      by_cases h3 : i < k
      · rw [if_pos h3, if_pos (by omega)]
      · rw [if_neg h3, if_neg (by omega)]
theorem told_set2 (n : Nat) (f : Nat → Int) (k : Nat) (v : Int) : ((toldS n f k).set k v).set k (f k) = toldS n f (k + 1) := by rw [List.set_set, told_set]
theorem told_skip (n : Nat) (f : Nat → Int) (k : Nat) (h : f k = 0) : toldS n f k = toldS n f (k + 1) := by
  apply List.ext_getElem
  · simp [toldS]
  · intro i h1 h2
    simp only [toldS, List.getElem_map, List.getElem_range]
    by_cases h3 : k = i
    · subst h3; simp [h]
    · by_cases h4 : i < k
      · rw [if_pos h4, if_pos (by omega)]
      · rw [if_neg h4, if_neg (by omega)]
def padF (l : List Int) (j : Nat) : Int := if (j : Int) < l.length then rd l j else 0
def twinF (how : Int) (q : List Place) (l : List Int) (j : Nat) : Int := if (j : Int) < l.length then (if (rd q j).secret = true ∨ bits .and .i64 how 7 = 0 then Int.fdiv (rd l j) 16 else rd l j) else 0
def statesS (p : Prg) (l : List Int) (how : Int) : Sta × Sta := ((startS p (toldS (placesS p).length (padF l) (placesS p).length)).1, (startS p (toldS (placesS p).length (twinF how (placesS p) l) (placesS p).length)).1)
def c_states : FT (Prg × List Int × Int) := ⟨24, fun x => [ap x.1, al x.2.1, ai x.2.2], rdPLI, fun x => Mems x.1.mems, fun x => rss (statesS x.1 x.2.1 x.2.2), false, fun x => by simp [ap, al, ai, rdPLI]⟩
noncomputable def a_states : FnA := (fnA Try.prog Try.f24 3 [(4, [1, 2, 3, 6, 7, 8, 9, 10, 25, 26])]).getD ⟨0, .skip, [], []⟩
def s_states : Sp := spT [c_rPlaces.fe, c_rStart.fe]
theorem s_states_sound : s_states.sound Try.prog := spT_sound fun e he => by
  simp only [List.mem_cons, List.not_mem_nil, or_false] at he
  rcases he with rfl | rfl
  · exact c_rPlaces_good
  · exact c_rStart_good
def F_states (p : Prg) (l : List Int) (how : Int) (q : List Place) (X Y : List (List D)) (nx ny : Nat) (k : Int) : St := ⟨mkS 80 [(1, vr (rowsOn l)), (2, vi how), (3, vp 192), (6, vp 384), (7, vp 448), (8, vo 1088 (rowsOn q).length), (9, vo 1280 nx), (10, vo 1472 ny), (25, vi (rowsOn q).length), (26, vi k)],
  [(192, bx p.cells), (384, bc [.d (.int .i64 0), .d (.int .i64 0), .d (.int .i64 0), .d (.int .i64 0), .nil, .nil, .d (.int .i64 0)]), (448, bc [.d (.int .i64 0), .d (.int .i64 0), .d (.int .i64 0), .d (.int .i64 0), .nil, .nil, .d (.int .i64 0)]), (1088, ba 3 (rowsOn q)), (1280, ba 1 X), (1472, ba 1 Y)]⟩
set_option maxRecDepth 100000 in
theorem t_states (p : Prg) (l : List Int) (how : Int) : a_states.start s_states 400 [ap p, al l, ai how] =
(VC.need (PreOk c_rPlaces p [A.agg (Prg.cells p)])
(VC.need ((↑(List.length (rowsOn (placesS { w := p.w, window := p.window, fuel := p.fuel, r0 := p.r0, r1 := p.r1, r2 := p.r2, r3 := p.r3, mems := listOf PMem (rowsOn p.mems), labels := listOf PLabel (rowsOn p.labels), ins := listOf Ins (rowsOn p.ins) }))) : Int) = (↑(List.length (rowsOn (placesS { w := p.w, window := p.window, fuel := p.fuel, r0 := p.r0, r1 := p.r1, r2 := p.r2, r3 := p.r3, mems := listOf PMem (rowsOn p.mems), labels := listOf PLabel (rowsOn p.labels), ins := listOf Ins (rowsOn p.ins) }))) : Int) ∧ (0 : Int) ≤ (↑(List.length (rowsOn (placesS { w := p.w, window := p.window, fuel := p.fuel, r0 := p.r0, r1 := p.r1, r2 := p.r2, r3 := p.r3, mems := listOf PMem (rowsOn p.mems), labels := listOf PLabel (rowsOn p.labels), ins := listOf Ins (rowsOn p.ins) }))) : Int) ∧ (9 : Int) * (↑(List.length (rowsOn (placesS { w := p.w, window := p.window, fuel := p.fuel, r0 := p.r0, r1 := p.r1, r2 := p.r2, r3 := p.r3, mems := listOf PMem (rowsOn p.mems), labels := listOf PLabel (rowsOn p.labels), ins := listOf Ins (rowsOn p.ins) }))) : Int) ≤ (140737488355328 : Int))
(VC.need ((↑(List.length (rowsOn (placesS { w := p.w, window := p.window, fuel := p.fuel, r0 := p.r0, r1 := p.r1, r2 := p.r2, r3 := p.r3, mems := listOf PMem (rowsOn p.mems), labels := listOf PLabel (rowsOn p.labels), ins := listOf Ins (rowsOn p.ins) }))) : Int) = (↑(List.length (rowsOn (placesS { w := p.w, window := p.window, fuel := p.fuel, r0 := p.r0, r1 := p.r1, r2 := p.r2, r3 := p.r3, mems := listOf PMem (rowsOn p.mems), labels := listOf PLabel (rowsOn p.labels), ins := listOf Ins (rowsOn p.ins) }))) : Int) ∧ (0 : Int) ≤ (↑(List.length (rowsOn (placesS { w := p.w, window := p.window, fuel := p.fuel, r0 := p.r0, r1 := p.r1, r2 := p.r2, r3 := p.r3, mems := listOf PMem (rowsOn p.mems), labels := listOf PLabel (rowsOn p.labels), ins := listOf Ins (rowsOn p.ins) }))) : Int) ∧ (9 : Int) * (↑(List.length (rowsOn (placesS { w := p.w, window := p.window, fuel := p.fuel, r0 := p.r0, r1 := p.r1, r2 := p.r2, r3 := p.r3, mems := listOf PMem (rowsOn p.mems), labels := listOf PLabel (rowsOn p.labels), ins := listOf Ins (rowsOn p.ins) }))) : Int) ≤ (140737488355328 : Int))
(FnA.at_ a_states 0 (F_states p l how (placesS { w := p.w, window := p.window, fuel := p.fuel, r0 := p.r0, r1 := p.r1, r2 := p.r2, r3 := p.r3, mems := listOf PMem (rowsOn p.mems), labels := listOf PLabel (rowsOn p.labels), ins := listOf Ins (rowsOn p.ins) }) (List.replicate (Int.toNat (↑(List.length (rowsOn (placesS { w := p.w, window := p.window, fuel := p.fuel, r0 := p.r0, r1 := p.r1, r2 := p.r2, r3 := p.r3, mems := listOf PMem (rowsOn p.mems), labels := listOf PLabel (rowsOn p.labels), ins := listOf Ins (rowsOn p.ins) }))) : Int)) [D.int IntKind.i64 (0 : Int)]) (List.replicate (Int.toNat (↑(List.length (rowsOn (placesS { w := p.w, window := p.window, fuel := p.fuel, r0 := p.r0, r1 := p.r1, r2 := p.r2, r3 := p.r3, mems := listOf PMem (rowsOn p.mems), labels := listOf PLabel (rowsOn p.labels), ins := listOf Ins (rowsOn p.ins) }))) : Int)) [D.int IntKind.i64 (0 : Int)]) (Int.toNat (↑(List.length (rowsOn (placesS { w := p.w, window := p.window, fuel := p.fuel, r0 := p.r0, r1 := p.r1, r2 := p.r2, r3 := p.r3, mems := listOf PMem (rowsOn p.mems), labels := listOf PLabel (rowsOn p.labels), ins := listOf Ins (rowsOn p.ins) }))) : Int)) (Int.toNat (↑(List.length (rowsOn (placesS { w := p.w, window := p.window, fuel := p.fuel, r0 := p.r0, r1 := p.r1, r2 := p.r2, r3 := p.r3, mems := listOf PMem (rowsOn p.mems), labels := listOf PLabel (rowsOn p.labels), ins := listOf Ins (rowsOn p.ins) }))) : Int)) (0 : Int)))))) := by kernel_rfl
set_option maxRecDepth 100000 in
theorem t_states0 (p : Prg) (l : List Int) (how : Int) (q : List Place) (X Y : List (List D)) (nx ny : Nat) (k : Int) : a_states.round s_states 400 0 (F_states p l how q X Y nx ny k) =
(VC.br (decide (k < (↑(List.length (rowsOn q)) : Int)))
 (VC.br (decide (k < (↑(List.length (rowsOn l)) : Int)))
  (VC.need ((0 : Int) ≤ k ∧ k < (↑(List.length (rowsOn l)) : Int) ∧ List.length (rowAt (rowsOn l) (Int.toNat k)) = (1 : Nat))
  (VC.need (okSh [Kd.int IntKind.i64] (rowAt (rowsOn l) (Int.toNat k)))
  (VC.need ((0 : Int) ≤ k ∧ k < (↑(List.length (rowsOn l)) : Int) ∧ List.length (rowAt (rowsOn l) (Int.toNat k)) = (1 : Nat))
  (VC.need (okSh [Kd.int IntKind.i64] (rowAt (rowsOn l) (Int.toNat k)))
  (VC.need ((0 : Int) ≤ k ∧ k < (↑nx : Int))
  (VC.need (Int.toNat k < List.length X ∧ List.length (rowAt X (Int.toNat k)) = (1 : Nat) ∧ (1 : Nat) ≤ (1 : Nat))
  (VC.need ((0 : Int) ≤ k ∧ k < (↑ny : Int))
  (VC.need (Int.toNat k < List.length Y ∧ List.length (rowAt Y (Int.toNat k)) = (1 : Nat) ∧ (1 : Nat) ≤ (1 : Nat))
  (VC.need ((0 : Int) ≤ k ∧ k < (↑(List.length (rowsOn q)) : Int))
  (VC.need (Int.toNat k < List.length (rowsOn q) ∧ List.length (rowAt (rowsOn q) (Int.toNat k)) = (3 : Nat) ∧ okSh [Kd.bool] (List.drop (2 : Nat) (rowAt (rowsOn q) (Int.toNat k))))
  (VC.br (asBool (List.getD (List.drop (2 : Nat) (rowAt (rowsOn q) (Int.toNat k))) (0 : Nat) D.nilp))
   (VC.need ((0 : Int) ≤ k ∧ k < (↑(List.length (rowsOn l)) : Int) ∧ List.length (rowAt (rowsOn l) (Int.toNat k)) = (1 : Nat))
   (VC.need (okSh [Kd.int IntKind.i64] (rowAt (rowsOn l) (Int.toNat k)))
   (VC.need ((0 : Int) ≤ (4 : Int))
   (VC.need ((0 : Int) ≤ k ∧ k < (↑ny : Int))
   (VC.need (Int.toNat k < List.length (List.set Y (Int.toNat k) (splice (rowAt Y (Int.toNat k)) (0 : Nat) [D.int IntKind.i64 (asInt (List.getD (rowAt (rowsOn l) (Int.toNat k)) (0 : Nat) D.nilp))])) ∧ List.length (rowAt (List.set Y (Int.toNat k) (splice (rowAt Y (Int.toNat k)) (0 : Nat) [D.int IntKind.i64 (asInt (List.getD (rowAt (rowsOn l) (Int.toNat k)) (0 : Nat) D.nilp))])) (Int.toNat k)) = (1 : Nat) ∧ (1 : Nat) ≤ (1 : Nat))
   (FnA.at_ a_states 0 (F_states p l how q (List.set X (Int.toNat k) (splice (rowAt X (Int.toNat k)) (0 : Nat) [D.int IntKind.i64 (asInt (List.getD (rowAt (rowsOn l) (Int.toNat k)) (0 : Nat) D.nilp))])) (List.set (List.set Y (Int.toNat k) (splice (rowAt Y (Int.toNat k)) (0 : Nat) [D.int IntKind.i64 (asInt (List.getD (rowAt (rowsOn l) (Int.toNat k)) (0 : Nat) D.nilp))])) (Int.toNat k) (splice (rowAt (List.set Y (Int.toNat k) (splice (rowAt Y (Int.toNat k)) (0 : Nat) [D.int IntKind.i64 (asInt (List.getD (rowAt (rowsOn l) (Int.toNat k)) (0 : Nat) D.nilp))])) (Int.toNat k)) (0 : Nat) [D.int IntKind.i64 (Int.fdiv (asInt (List.getD (rowAt (rowsOn l) (Int.toNat k)) (0 : Nat) D.nilp)) (16 : Int))])) nx ny (IntKind.wrap IntKind.i64 (k + (1 : Int))))))))))
   (VC.br (bits BinOp.and IntKind.i64 how (7 : Int) == (0 : Int))
    (VC.need ((0 : Int) ≤ k ∧ k < (↑(List.length (rowsOn l)) : Int) ∧ List.length (rowAt (rowsOn l) (Int.toNat k)) = (1 : Nat))
    (VC.need (okSh [Kd.int IntKind.i64] (rowAt (rowsOn l) (Int.toNat k)))
    (VC.need ((0 : Int) ≤ (4 : Int))
    (VC.need ((0 : Int) ≤ k ∧ k < (↑ny : Int))
    (VC.need (Int.toNat k < List.length (List.set Y (Int.toNat k) (splice (rowAt Y (Int.toNat k)) (0 : Nat) [D.int IntKind.i64 (asInt (List.getD (rowAt (rowsOn l) (Int.toNat k)) (0 : Nat) D.nilp))])) ∧ List.length (rowAt (List.set Y (Int.toNat k) (splice (rowAt Y (Int.toNat k)) (0 : Nat) [D.int IntKind.i64 (asInt (List.getD (rowAt (rowsOn l) (Int.toNat k)) (0 : Nat) D.nilp))])) (Int.toNat k)) = (1 : Nat) ∧ (1 : Nat) ≤ (1 : Nat))
    (FnA.at_ a_states 0 (F_states p l how q (List.set X (Int.toNat k) (splice (rowAt X (Int.toNat k)) (0 : Nat) [D.int IntKind.i64 (asInt (List.getD (rowAt (rowsOn l) (Int.toNat k)) (0 : Nat) D.nilp))])) (List.set (List.set Y (Int.toNat k) (splice (rowAt Y (Int.toNat k)) (0 : Nat) [D.int IntKind.i64 (asInt (List.getD (rowAt (rowsOn l) (Int.toNat k)) (0 : Nat) D.nilp))])) (Int.toNat k) (splice (rowAt (List.set Y (Int.toNat k) (splice (rowAt Y (Int.toNat k)) (0 : Nat) [D.int IntKind.i64 (asInt (List.getD (rowAt (rowsOn l) (Int.toNat k)) (0 : Nat) D.nilp))])) (Int.toNat k)) (0 : Nat) [D.int IntKind.i64 (Int.fdiv (asInt (List.getD (rowAt (rowsOn l) (Int.toNat k)) (0 : Nat) D.nilp)) (16 : Int))])) nx ny (IntKind.wrap IntKind.i64 (k + (1 : Int))))))))))
    (FnA.at_ a_states 0 (F_states p l how q (List.set X (Int.toNat k) (splice (rowAt X (Int.toNat k)) (0 : Nat) [D.int IntKind.i64 (asInt (List.getD (rowAt (rowsOn l) (Int.toNat k)) (0 : Nat) D.nilp))])) (List.set Y (Int.toNat k) (splice (rowAt Y (Int.toNat k)) (0 : Nat) [D.int IntKind.i64 (asInt (List.getD (rowAt (rowsOn l) (Int.toNat k)) (0 : Nat) D.nilp))])) nx ny (IntKind.wrap IntKind.i64 (k + (1 : Int)))))))))))))))))
  (FnA.at_ a_states 0 (F_states p l how q X Y nx ny (IntKind.wrap IntKind.i64 (k + (1 : Int))))))
 (VC.need (PreOk c_rStart (Prg.of (Prg.cells p), listOf Int X) [A.agg (Prg.cells p), A.c (D.sl X)])
 (VC.need (PreOk c_rStart (Prg.of (Prg.cells p), listOf Int Y) [A.agg (Prg.cells p), A.c (D.sl Y)])
 (VC.ret (some (RR.tup [Sum.inr [Rc.d (D.int IntKind.i64 (startS (Prg.of (Prg.cells p)) (listOf Int X)).fst.r0), Rc.d (D.int IntKind.i64 (startS (Prg.of (Prg.cells p)) (listOf Int X)).fst.r1), Rc.d (D.int IntKind.i64 (startS (Prg.of (Prg.cells p)) (listOf Int X)).fst.r2), Rc.d (D.int IntKind.i64 (startS (Prg.of (Prg.cells p)) (listOf Int X)).fst.r3), Rc.new (1 : Nat) (rowsOn (startS (Prg.of (Prg.cells p)) (listOf Int X)).fst.mem), Rc.new (1 : Nat) (rowsOn (startS (Prg.of (Prg.cells p)) (listOf Int X)).fst.stack), Rc.d (D.int IntKind.i64 (startS (Prg.of (Prg.cells p)) (listOf Int X)).fst.pc)], Sum.inr [Rc.d (D.int IntKind.i64 (startS (Prg.of (Prg.cells p)) (listOf Int Y)).fst.r0), Rc.d (D.int IntKind.i64 (startS (Prg.of (Prg.cells p)) (listOf Int Y)).fst.r1), Rc.d (D.int IntKind.i64 (startS (Prg.of (Prg.cells p)) (listOf Int Y)).fst.r2), Rc.d (D.int IntKind.i64 (startS (Prg.of (Prg.cells p)) (listOf Int Y)).fst.r3), Rc.new (1 : Nat) (rowsOn (startS (Prg.of (Prg.cells p)) (listOf Int Y)).fst.mem), Rc.new (1 : Nat) (rowsOn (startS (Prg.of (Prg.cells p)) (listOf Int Y)).fst.stack), Rc.d (D.int IntKind.i64 (startS (Prg.of (Prg.cells p)) (listOf Int Y)).fst.pc)]])))))) := by kernel_rfl
theorem l_states0 (p : Prg) (l : List Int) (how : Int) (q : List Place) (hm : Mems p.mems) (hq : q = placesS p) (hl : q.length ≤ 10000) : ∀ i : Int × List (List D) × List (List D) × Nat × Nat, (fun (i : Int × List (List D) × List (List D) × Nat × Nat) => 0 ≤ i.1 ∧ i.1 ≤ q.length ∧ OnL i.2.1 i.2.2.2.1 (toldS q.length (padF l) i.1.toNat) ∧ OnL i.2.2.1 i.2.2.2.2 (toldS q.length (twinF how q l) i.1.toNat)) i → (a_states.at_ 0 ((fun (i : Int × List (List D) × List (List D) × Nat × Nat) => F_states p l how q i.2.1 i.2.2.1 i.2.2.2.1 i.2.2.2.2 i.1) i)).holds s_states.cx a_states.rs (fun r => r.le (rss (statesS p l how))) := by
  refine loop_rule (a := a_states) (j := 0) (m := 400) s_states_sound (fun (i : Int × List (List D) × List (List D) × Nat × Nat) => F_states p l how q i.2.1 i.2.2.1 i.2.2.2.1 i.2.2.2.2 i.1) (fun (i : Int × List (List D) × List (List D) × Nat × Nat) => 0 ≤ i.1 ∧ i.1 ≤ q.length ∧ OnL i.2.1 i.2.2.2.1 (toldS q.length (padF l) i.1.toNat) ∧ OnL i.2.2.1 i.2.2.2.2 (toldS q.length (twinF how q l) i.1.toNat)) (fun (i : Int × List (List D) × List (List D) × Nat × Nat) => ((q.length : Int) - i.1).toNat) ?_
  rintro ⟨k, X, Y, nx, ny⟩ h_inv ih
  try dsimp only at h_inv
  replace ih := fun (v0 : Int) (v1 : List (List D)) (v2 : List (List D)) (v3 : Nat) (v4 : Nat) => ih (v0, v1, v2, v3, v4)
  try dsimp only at ih
  show VC.holds _ _ _ (a_states.round s_states 400 0 (F_states p l how q X Y nx ny k))
  rw [t_states0]
  try simp only [asRows_sl, asInt_int, asBool_bool, asStr_str, listOf_rowsOn, List.drop_zero, Prg.eta, Sta.eta, rowsOn_length, getD_drop, Nat.reduceAdd, rd_int, rd_PMem_name, rd_PMem_secret, rd_PMem_n, rd_PLabel_name, rd_PLabel_at_, rd_Ins_kind, rd_Ins_op, rd_Ins_d, rd_Ins_aR, rd_Ins_aN, rd_Ins_bR, rd_Ins_bN, rd_Ins_name, rd_Ins_target, rd_Ent_pc, rd_Ent_val, rd_Ent_addr, rd_Ent_fro, rd_Ent_next, rd_Ent_done, rd_Ent_known, rd_Ent_fault, rd_Place_reg, rd_Place_n, rd_Place_secret, rd_Obs_kind, rd_Obs_at_, rd_Dir_kind, rd_Dir_n]
  obtain ⟨h0, h1, h2, h3⟩ := h_inv
  have w1 : IntKind.wrap .i64 (k + 1) = k + 1 := wrap_small _ (by omega) (by omega)
  rw [w1]
  have l2 := h2.2
  have l3 := h3.2
  rw [told_len] at l2 l3
  repeat' first
    | refine br_not ?_
    | refine br_dec (fun _ => ?_) (fun _ => ?_)
    | refine br_beq (fun _ => ?_) (fun _ => ?_)
    | refine br_bne (fun _ => ?_) (fun _ => ?_)
    | refine br_holds (fun _ => ?_) (fun _ => ?_)
    | refine ⟨PreOk.mk ?_ rfl, ?_⟩
    | refine ⟨idx_ok _ _ _ rfl (by omega) (by omega), ?_⟩
    | refine ⟨okSh_ok _ _ _ (fun _ => rfl) (by omega) (by omega), ?_⟩
    | refine ⟨okSh_okD _ _ _ _ (fun _ => rfl) (by omega) (by omega), ?_⟩
    | refine ⟨aload_ok _ _ rfl (fun _ => rfl) (by omega) (by omega), ?_⟩
    | refine ⟨aload_okD _ _ _ rfl (fun _ => rfl) (by omega) (by omega), ?_⟩
    | refine ⟨astore_ok (by assumption) rfl (by omega) (by omega) (by decide), ?_⟩
    | refine ⟨app_ok (by assumption) rfl rfl (by simp only [List.length_cons, List.length_nil]; omega), ?_⟩
    | refine need_holds ?_ fun _ => ?_
    | refine all_holds fun y hy => ?_
    | refine ret_le ?_
    | refine ih _ _ _ _ _ ?_ ?_
  all_goals try omega
  all_goals try have hk : k < q.length := by assumption
  all_goals have m2 := told_len q.length (padF l) k.toNat
  all_goals have m3 := told_len q.length (twinF how q l) k.toNat
  all_goals have m4 : ((toldS q.length (twinF how q l) k.toNat).set k.toNat (rd l k)).length = q.length := by simpa using m3
  all_goals try exact astore_ok h2 rfl (by omega) (by omega) (by decide)
  all_goals try exact astore_ok h3 rfl (by omega) (by omega) (by decide)
  all_goals try exact astore_ok (h3.set (by omega) (by omega) (rd l k)) rfl (by omega) (by omega) (by decide)
  all_goals have ek : (k + 1).toNat = k.toNat + 1 := by omega
  all_goals have ek' : ((k.toNat : Nat) : Int) = k := by omega
  all_goals try have pf : padF l k.toNat = rd l k := by unfold padF; rw [ek', if_pos ‹_›]
  · have tf : twinF how q l k.toNat = Int.fdiv (rd l k) 16 := by unfold twinF; rw [ek', if_pos ‹_›, if_pos (Or.inl ‹_›)]
    have g2 := h2.set h0 (by omega) (rd l k)
    have g3 := (h3.set h0 (by omega) (rd l k)).set h0 (by omega) (Int.fdiv (rd l k) 16)
    rw [← pf, told_set] at g2
    rw [← tf, told_set2] at g3
    rw [ek]
    exact ⟨by omega, by omega, by rw [← pf]; exact g2, by rw [← tf]; exact g3⟩
  · have tf : twinF how q l k.toNat = Int.fdiv (rd l k) 16 := by unfold twinF; rw [ek', if_pos ‹_›, if_pos (Or.inr ‹_›)]
    have g2 := h2.set h0 (by omega) (rd l k)
    have g3 := (h3.set h0 (by omega) (rd l k)).set h0 (by omega) (Int.fdiv (rd l k) 16)
    rw [← pf, told_set] at g2
    rw [← tf, told_set2] at g3
    rw [ek]
    exact ⟨by omega, by omega, by rw [← pf]; exact g2, by rw [← tf]; exact g3⟩
  · have tf : twinF how q l k.toNat = rd l k := by unfold twinF; rw [ek', if_pos ‹_›, if_neg (by rintro (h | h) <;> simp_all)]
    have g2 := h2.set h0 (by omega) (rd l k)
    have g3 := h3.set h0 (by omega) (rd l k)
    rw [← pf, told_set] at g2
    rw [← tf, told_set] at g3
    rw [ek]
    exact ⟨by omega, by omega, by rw [← pf]; exact g2, by rw [← tf]; exact g3⟩
  · have hn : ¬ ((k.toNat : Nat) : Int) < l.length := by omega
    rw [ek, ← told_skip _ _ _ (show padF l k.toNat = 0 from if_neg hn), ← told_skip _ _ _ (show twinF how q l k.toNat = 0 from if_neg hn)]
    exact ⟨by omega, by omega, h2, h3⟩
  · obtain ⟨rfl, rfl⟩ := h2
    simp only [listOf_rowsOn, Prg.of_cells]
    exact PreOk.mk hm rfl
  · obtain ⟨rfl, rfl⟩ := h3
    simp only [listOf_rowsOn, Prg.of_cells]
    exact PreOk.mk hm rfl
  · obtain ⟨rfl, rfl⟩ := h2
    obtain ⟨rfl, rfl⟩ := h3
    have hk : k.toNat = q.length := by omega
    subst hq
    rw [hk]
    simp only [listOf_rowsOn, Prg.of_cells]
    exact RR.le_refl _
theorem c_states_good : c_states.fe.Good Try.prog := by
  refine FT.good c_states ⟨Try.f24, by kernel_rfl, by decide +kernel, by kernel_rfl⟩ (fun ⟨p, l, how⟩ => by first | rfl | simp [c_states, rrRef, rnewI, rnewE, rstab, rplaces, ri, rb, rib, rss, Sta.fresh]) fun ⟨p, l, how⟩ hp => ?_
  refine acalls_le s_states_sound (fn := Try.f24) (a := a_states) (nargs := 3) (tbl := [(4, [1, 2, 3, 6, 7, 8, 9, 10, 25, 26])]) (by kernel_rfl) (by kernel_rfl) rfl (m := 400) ?_
  show VC.holds _ _ _ (a_states.start s_states 400 [ap p, al l, ai how])
  rw [t_states]
  try simp only [asRows_sl, asInt_int, asBool_bool, asStr_str, listOf_rowsOn, List.drop_zero, Prg.eta, Sta.eta, rowsOn_length, getD_drop, Nat.reduceAdd, rd_int, rd_PMem_name, rd_PMem_secret, rd_PMem_n, rd_PLabel_name, rd_PLabel_at_, rd_Ins_kind, rd_Ins_op, rd_Ins_d, rd_Ins_aR, rd_Ins_aN, rd_Ins_bR, rd_Ins_bN, rd_Ins_name, rd_Ins_target, rd_Ent_pc, rd_Ent_val, rd_Ent_addr, rd_Ent_fro, rd_Ent_next, rd_Ent_done, rd_Ent_known, rd_Ent_fault, rd_Place_reg, rd_Place_n, rd_Place_secret, rd_Obs_kind, rd_Obs_at_, rd_Dir_kind, rd_Dir_n]
  try simp only [c_states] at hp
  have hm : Mems p.mems := hp
  have hpl := places_len p hm
  have e : c_states.ans (p, l, how) = rss (statesS p l how) := rfl
  rw [e]
  repeat' first
    | refine br_not ?_
    | refine br_dec (fun _ => ?_) (fun _ => ?_)
    | refine br_beq (fun _ => ?_) (fun _ => ?_)
    | refine br_bne (fun _ => ?_) (fun _ => ?_)
    | refine br_holds (fun _ => ?_) (fun _ => ?_)
    | refine ⟨PreOk.mk ?_ rfl, ?_⟩
    | refine ⟨idx_ok _ _ _ rfl (by omega) (by omega), ?_⟩
    | refine ⟨okSh_ok _ _ _ (fun _ => rfl) (by omega) (by omega), ?_⟩
    | refine ⟨okSh_okD _ _ _ _ (fun _ => rfl) (by omega) (by omega), ?_⟩
    | refine ⟨aload_ok _ _ rfl (fun _ => rfl) (by omega) (by omega), ?_⟩
    | refine ⟨aload_okD _ _ _ rfl (fun _ => rfl) (by omega) (by omega), ?_⟩
    | refine ⟨astore_ok (by assumption) rfl (by omega) (by omega) (by decide), ?_⟩
    | refine ⟨app_ok (by assumption) rfl rfl (by simp only [List.length_cons, List.length_nil]; omega), ?_⟩
    | refine need_holds ?_ fun _ => ?_
    | refine all_holds fun y hy => ?_
    | refine ret_le ?_
  · exact hm
  · exact ⟨trivial, by omega, by omega⟩
  · exact ⟨trivial, by omega, by omega⟩
  · have er : ∀ n : Nat, (List.replicate n [D.int IntKind.i64 0]) = rowsOn (List.replicate n (0 : Int)) := fun n => (OnL.rep n (0 : Int)).1
    rw [Int.toNat_natCast]
    refine l_states0 p l how (placesS p) hm rfl (by omega) (0, _, _, _, _) ⟨by simp, by simp, ?_, ?_⟩
    · rw [show Int.toNat 0 = 0 from rfl, told_zero]; exact OnL.rep _ (0 : Int)
    · rw [show Int.toNat 0 = 0 from rfl, told_zero]; exact OnL.rep _ (0 : Int)
end Go.Proofs.Ytclabjihjopclaa.Ax
end

section
/- Rows of numbers in bytes: code.Put, arch.Numbers, arch.Code, auguryref1.Put, auguryref7.Ints, Code, Same. -/
namespace Go.Proofs.Ytclabjihjopclaa.Ax
open Go.RowKit
set_option linter.unusedVariables false
set_option linter.unusedSimpArgs false
structure By where
  v : Int
  deriving Inhabited, DecidableEq
instance : Row By := ⟨fun p => [.int .u8 p.v], fun r => ⟨asInt (r.getD 0 .nilp)⟩, fun _ => rfl, 1, fun _ => rfl⟩
instance : NoRef By := ⟨fun _ => rfl⟩
def by8 (v : Int) : Nat → List By
  | 0 => []
  | k + 1 => ⟨IntKind.wrap .u8 (Int.fdiv (IntKind.wrap .u64 v) (2 ^ (8 * k)))⟩ :: by8 v k
def bytes1 (v : Int) : List By := if -1 ≤ v ∧ v ≤ 253 then [⟨IntKind.wrap .u8 (IntKind.wrap .i64 (v + 1))⟩] else ⟨255⟩ :: by8 v 8
def bytesS (l : List Int) : List By := l.flatMap bytes1
def c_put : FT (List Int × Unit) := ⟨85, fun l => [al l.1], rdL, fun l => l.1.length ≤ 1000000000, fun l => .c (.new 1 (rowsOn (bytesS l.1))), false, fun l => by simp [al, rdL]⟩
noncomputable def a_put : FnA := (fnA Try.prog Try.f85 1 [(3, [3, 7, 8, 9, 1000003000000900003001]), (9, [3, 5, 6, 7, 8, 9, 1000003000000900003001])]).getD ⟨0, .skip, [], []⟩
def s_put : Sp := spT []
theorem s_put_sound : s_put.sound Try.prog := spT_sound fun e he => by cases he
def F_put (l : List Int) (k : Int) (R : List (List D)) (n : Nat) : St := ⟨mkS 42 [(3, vo 900003 n), (7, vr (rowsOn l)), (8, vi (rowsOn l).length), (9, vi k)], [(900003, ba 1 R)]⟩
def F_puti (l : List Int) (k v s : Int) (R : List (List D)) (n : Nat) : St := ⟨mkS 42 [(3, vo 900003 n), (5, vi v), (6, vi s), (7, vr (rowsOn l)), (8, vi (rowsOn l).length), (9, vi k)], [(900003, ba 1 R)]⟩
set_option maxRecDepth 100000 in
theorem t_put (l : List Int) : a_put.start s_put 400 [al l] =
(FnA.at_ a_put 0 (F_put l (0 : Int) [] (0 : Nat))) := by kernel_rfl
set_option maxRecDepth 100000 in
theorem t_put0 (l : List Int) (k : Int) (R : List (List D)) (n : Nat) : a_put.round s_put 400 0 (F_put l k R n) =
(VC.br (decide (k < (↑(List.length (rowsOn l)) : Int)))
 (VC.need ((0 : Int) ≤ k ∧ k < (↑(List.length (rowsOn l)) : Int) ∧ List.length (rowAt (rowsOn l) (Int.toNat k)) = (1 : Nat))
 (VC.need (okSh [Kd.int IntKind.i64] (rowAt (rowsOn l) (Int.toNat k)))
 (VC.br (decide ((-1 : Int) ≤ asInt (List.getD (rowAt (rowsOn l) (Int.toNat k)) (0 : Nat) D.nilp)))
  (VC.br (decide (asInt (List.getD (rowAt (rowsOn l) (Int.toNat k)) (0 : Nat) D.nilp) ≤ (253 : Int)))
   (VC.need ((List.all [[D.int IntKind.u8 (IntKind.wrap IntKind.u8 (IntKind.wrap IntKind.i64 (asInt (List.getD (rowAt (rowsOn l) (Int.toNat k)) (0 : Nat) D.nilp) + (1 : Int))))]] fun r ↦ List.length r == (1 : Nat)) = true ∧ (List.all R fun r ↦ List.length r == (1 : Nat)) = true ∧ (List.length R + List.length [[D.int IntKind.u8 (IntKind.wrap IntKind.u8 (IntKind.wrap IntKind.i64 (asInt (List.getD (rowAt (rowsOn l) (Int.toNat k)) (0 : Nat) D.nilp) + (1 : Int))))]] + (100 : Nat)) * (2 : Nat) ≤ (70368744177664 : Nat))
   (FnA.at_ a_put 0 (F_put l (IntKind.wrap IntKind.i64 (k + (1 : Int))) (R ++ [[D.int IntKind.u8 (IntKind.wrap IntKind.u8 (IntKind.wrap IntKind.i64 (asInt (List.getD (rowAt (rowsOn l) (Int.toNat k)) (0 : Nat) D.nilp) + (1 : Int))))]]) (List.length R + List.length [[D.int IntKind.u8 (IntKind.wrap IntKind.u8 (IntKind.wrap IntKind.i64 (asInt (List.getD (rowAt (rowsOn l) (Int.toNat k)) (0 : Nat) D.nilp) + (1 : Int))))]]))))
   (VC.need ((List.all [[D.int IntKind.u8 (255 : Int)]] fun r ↦ List.length r == (1 : Nat)) = true ∧ (List.all R fun r ↦ List.length r == (1 : Nat)) = true ∧ (List.length R + (1 : Nat) + (100 : Nat)) * (2 : Nat) ≤ (70368744177664 : Nat))
   (FnA.at_ a_put 1 (F_puti l k (asInt (List.getD (rowAt (rowsOn l) (Int.toNat k)) (0 : Nat) D.nilp)) (56 : Int) (R ++ [[D.int IntKind.u8 (255 : Int)]]) (List.length R + (1 : Nat))))))
  (VC.need ((List.all [[D.int IntKind.u8 (255 : Int)]] fun r ↦ List.length r == (1 : Nat)) = true ∧ (List.all R fun r ↦ List.length r == (1 : Nat)) = true ∧ (List.length R + (1 : Nat) + (100 : Nat)) * (2 : Nat) ≤ (70368744177664 : Nat))
  (FnA.at_ a_put 1 (F_puti l k (asInt (List.getD (rowAt (rowsOn l) (Int.toNat k)) (0 : Nat) D.nilp)) (56 : Int) (R ++ [[D.int IntKind.u8 (255 : Int)]]) (List.length R + (1 : Nat))))))))
 (VC.ret (some (RR.c (Rc.new (1 : Nat) R))))) := by kernel_rfl
set_option maxRecDepth 100000 in
theorem t_put1 (l : List Int) (k v s : Int) (R : List (List D)) (n : Nat) : a_put.round s_put 400 1 (F_puti l k v s R n) =
(VC.br (decide ((0 : Int) ≤ s))
 (VC.need ((0 : Int) ≤ s)
 (VC.need ((List.all [[D.int IntKind.u8 (IntKind.wrap IntKind.u8 (Int.fdiv (IntKind.wrap IntKind.u64 v) ((2 : Int) ^ min (Int.toNat s) (64 : Nat))))]] fun r ↦ List.length r == (1 : Nat)) = true ∧ (List.all R fun r ↦ List.length r == (1 : Nat)) = true ∧ (List.length R + List.length [[D.int IntKind.u8 (IntKind.wrap IntKind.u8 (Int.fdiv (IntKind.wrap IntKind.u64 v) ((2 : Int) ^ min (Int.toNat s) (64 : Nat))))]] + (100 : Nat)) * (2 : Nat) ≤ (70368744177664 : Nat))
 (FnA.at_ a_put 1 (F_puti l k v (IntKind.wrap IntKind.i64 (s - (8 : Int))) (R ++ [[D.int IntKind.u8 (IntKind.wrap IntKind.u8 (Int.fdiv (IntKind.wrap IntKind.u64 v) ((2 : Int) ^ min (Int.toNat s) (64 : Nat))))]]) (List.length R + List.length [[D.int IntKind.u8 (IntKind.wrap IntKind.u8 (Int.fdiv (IntKind.wrap IntKind.u64 v) ((2 : Int) ^ min (Int.toNat s) (64 : Nat))))]])))))
 (FnA.at_ a_put 0 (F_put l (IntKind.wrap IntKind.i64 (k + (1 : Int))) R n))) := by kernel_rfl
theorem take_rd {α : Type} [Row α] (l : List α) (k : Int) (h0 : 0 ≤ k) (h : k < l.length) : l.take (k + 1).toNat = l.take k.toNat ++ [rd l k] := by
  have hi : k.toNat < l.length := by omega
  have h1 : (k + 1).toNat = k.toNat + 1 := by omega
  rw [h1, List.take_succ_eq_append_getElem hi]
  congr 2
  have := rd_lt l k.toNat hi
  rw [← this]
  congr 1
  omega
theorem by8_len (v : Int) : ∀ k, (by8 v k).length = k
  | 0 => rfl
  | k + 1 => by simp [by8, by8_len v k]
theorem bytes1_len (v : Int) : (bytes1 v).length ≤ 9 := by
  unfold bytes1
  split
  · simp
  · simp [by8_len]
theorem bytesS_len : ∀ l : List Int, (bytesS l).length ≤ 9 * l.length
  | [] => by simp [bytesS]
  | v :: l => by
    have h1 := bytes1_len v
    have h2 := bytesS_len l
    simp only [bytesS, List.flatMap_cons, List.length_append, List.length_cons] at h2 ⊢
    omega
theorem bytesS_snoc (l : List Int) (v : Int) : bytesS (l ++ [v]) = bytesS l ++ bytes1 v := by simp [bytesS]
theorem bytesS_take_len (l : List Int) (k : Nat) (hl : l.length ≤ 1000000000) : (bytesS (l.take k)).length ≤ 9000000000 := by
  have := bytesS_len (l.take k)
  have := List.length_take_le k l
  have : (l.take k).length ≤ l.length := by rw [List.length_take]; omega
  omega
theorem l_put1 (l : List Int) (k v : Int) (Q : RR → Prop) (out : List By) (hl : l.length ≤ 1000000000) (hk : 0 ≤ k ∧ k < l.length) (ho : out.length ≤ 10000000000)
    (cont : ∀ R n, OnL R n out → (a_put.at_ 0 (F_put l (k + 1) R n)).holds s_put.cx a_put.rs Q) : ∀ (j : Nat) (s : Int) (R : List (List D)) (n : Nat) (acc : List By), j ≤ 8 → s = 8 * (j : Int) - 8 → OnL R n acc → acc ++ by8 v j = out → (a_put.at_ 1 (F_puti l k v s R n)).holds s_put.cx a_put.rs Q := by
  intro j
  induction j with
  | zero =>
    intro s R n acc _ hs h1 h2
    refine at_of_round s_put_sound (m := 400) ?_
    rw [t_put1, wrap_small (k + 1) (by omega) (by omega)]
    refine br_dec (fun h => by omega) (fun h => ?_)
    refine cont R n ?_
    rw [← h2]
    simpa [by8] using h1
  | succ j ih =>
    intro s R n acc hj hs h1 h2
    refine at_of_round s_put_sound (m := 400) ?_
    have hlen : acc.length + (j + 1) = out.length := by rw [← h2, List.length_append, by8_len]
    have e : min (Int.toNat s) 64 = 8 * j := by omega
    rw [t_put1, wrap_small (k + 1) (by omega) (by omega), wrap_small (s - 8) (by omega) (by omega), e]
    refine br_dec (fun h => ?_) (fun h => by omega)
    refine ⟨by omega, app_ok h1 rfl rfl (by simp only [List.length_cons, List.length_nil]; omega), ?_⟩
    refine ih (s - 8) _ _ _ (by omega) (by omega) (h1.snoc (⟨_⟩ : By)) ?_
    rw [← h2, List.append_assoc]
    rfl
theorem l_put0 (l : List Int) (hl : l.length ≤ 1000000000) : ∀ i : Int × List (List D) × Nat, (fun (i : Int × List (List D) × Nat) => 0 ≤ i.1 ∧ i.1 ≤ l.length ∧ OnL i.2.1 i.2.2 (bytesS (l.take i.1.toNat))) i → (a_put.at_ 0 ((fun (i : Int × List (List D) × Nat) => F_put l i.1 i.2.1 i.2.2) i)).holds s_put.cx a_put.rs (fun r => r.le (.c (.new 1 (rowsOn (bytesS l))))) := by
  refine loop_rule (a := a_put) (j := 0) (m := 400) s_put_sound (fun (i : Int × List (List D) × Nat) => F_put l i.1 i.2.1 i.2.2) (fun (i : Int × List (List D) × Nat) => 0 ≤ i.1 ∧ i.1 ≤ l.length ∧ OnL i.2.1 i.2.2 (bytesS (l.take i.1.toNat))) (fun (i : Int × List (List D) × Nat) => ((l.length : Int) - i.1).toNat) ?_
  rintro ⟨k, R, n⟩ h_inv ih
  try dsimp only at h_inv
  replace ih := fun (v0 : Int) (v1 : List (List D)) (v2 : Nat) => ih (v0, v1, v2)
  try dsimp only at ih
  show VC.holds _ _ _ (a_put.round s_put 400 0 (F_put l k R n))
  rw [t_put0]
  try simp only [asRows_sl, asInt_int, asBool_bool, asStr_str, listOf_rowsOn, List.drop_zero, Prg.eta, Sta.eta, rowsOn_length, getD_drop, Nat.reduceAdd, rd_int, rd_PMem_name, rd_PMem_secret, rd_PMem_n, rd_PLabel_name, rd_PLabel_at_, rd_Ins_kind, rd_Ins_op, rd_Ins_d, rd_Ins_aR, rd_Ins_aN, rd_Ins_bR, rd_Ins_bN, rd_Ins_name, rd_Ins_target, rd_Ent_pc, rd_Ent_val, rd_Ent_addr, rd_Ent_fro, rd_Ent_next, rd_Ent_done, rd_Ent_known, rd_Ent_fault, rd_Place_reg, rd_Place_n, rd_Place_secret, rd_Obs_kind, rd_Obs_at_, rd_Dir_kind, rd_Dir_n]
  obtain ⟨h0, h1, h2⟩ := h_inv
  have w1 : IntKind.wrap .i64 (k + 1) = k + 1 := wrap_small _ (by omega) (by omega)
  have hb := bytesS_take_len l k.toNat hl
  try rw [w1]
  repeat' first
    | refine br_not ?_
    | refine br_dec (fun _ => ?_) (fun _ => ?_)
    | refine br_beq (fun _ => ?_) (fun _ => ?_)
    | refine br_bne (fun _ => ?_) (fun _ => ?_)
    | refine br_holds (fun _ => ?_) (fun _ => ?_)
    | refine ⟨PreOk.mk ?_ rfl, ?_⟩
    | refine ⟨idx_ok _ _ _ rfl (by omega) (by omega), ?_⟩
    | refine ⟨okSh_ok _ _ _ (fun _ => rfl) (by omega) (by omega), ?_⟩
    | refine ⟨okSh_okD _ _ _ _ (fun _ => rfl) (by omega) (by omega), ?_⟩
    | refine ⟨aload_ok _ _ rfl (fun _ => rfl) (by omega) (by omega), ?_⟩
    | refine ⟨aload_okD _ _ _ rfl (fun _ => rfl) (by omega) (by omega), ?_⟩
    | refine ⟨astore_ok (by assumption) rfl (by omega) (by omega) (by decide), ?_⟩
    | refine ⟨app_ok (by assumption) rfl rfl (by simp only [List.length_cons, List.length_nil]; omega), ?_⟩
    | refine need_holds ?_ fun _ => ?_
    | refine all_holds fun y hy => ?_
    | refine ret_le ?_
  · rename_i hk _ _
    refine ih _ _ _ ⟨by omega, by omega, ?_⟩ (by omega)
    rw [take_rd l k h0 hk, bytesS_snoc]
    have e : bytes1 (rd l k) = [⟨IntKind.wrap .u8 (IntKind.wrap .i64 (rd l k + 1))⟩] := by unfold bytes1; rw [if_pos ⟨‹_›, ‹_›⟩]
    rw [e]
    exact h2.snoc (⟨_⟩ : By)
  · rename_i hk _ _
    have e : bytes1 (rd l k) = ⟨255⟩ :: by8 (rd l k) 8 := by unfold bytes1; rw [if_neg (by omega)]
    have hb' := bytesS_take_len l (k + 1).toNat hl
    refine l_put1 l k (rd l k) _ (bytesS (l.take (k + 1).toNat)) hl ⟨h0, hk⟩ (by omega) (fun R n h => ih _ _ _ ⟨by omega, by omega, h⟩ (by omega)) 8 56 _ _ _ (by omega) (by omega) (h2.snoc (⟨255⟩ : By)) ?_
    rw [take_rd l k h0 hk, bytesS_snoc, e]
    simp
  · rename_i hk _
    have e : bytes1 (rd l k) = ⟨255⟩ :: by8 (rd l k) 8 := by unfold bytes1; rw [if_neg (by omega)]
    have hb' := bytesS_take_len l (k + 1).toNat hl
    refine l_put1 l k (rd l k) _ (bytesS (l.take (k + 1).toNat)) hl ⟨h0, hk⟩ (by omega) (fun R n h => ih _ _ _ ⟨by omega, by omega, h⟩ (by omega)) 8 56 _ _ _ (by omega) (by omega) (h2.snoc (⟨255⟩ : By)) ?_
    rw [take_rd l k h0 hk, bytesS_snoc, e]
    simp
  · have hk : k.toNat = l.length := by omega
    rw [hk, List.take_length] at h2
    rw [h2.1]
    exact RR.le_refl _
theorem c_put_good : c_put.fe.Good Try.prog := by
  refine FT.good c_put ⟨Try.f85, by kernel_rfl, by decide +kernel, by kernel_rfl⟩ (fun ⟨l, u⟩ => by first | rfl | simp [c_put, rrRef, rss, rnewI, rnewE, rstab, rplaces, ri, rb, rib, Sta.fresh]) fun ⟨l, u⟩ hp => ?_
  refine acalls_le s_put_sound (fn := Try.f85) (a := a_put) (nargs := 1) (tbl := [(3, [3, 7, 8, 9, 1000003000000900003001]), (9, [3, 5, 6, 7, 8, 9, 1000003000000900003001])]) (by kernel_rfl) (by kernel_rfl) rfl (m := 400) ?_
  show VC.holds _ _ _ (a_put.start s_put 400 [al l])
  rw [t_put]
  try simp only [asRows_sl, asInt_int, asBool_bool, asStr_str, listOf_rowsOn, List.drop_zero, Prg.eta, Sta.eta, rowsOn_length, getD_drop, Nat.reduceAdd, rd_int, rd_PMem_name, rd_PMem_secret, rd_PMem_n, rd_PLabel_name, rd_PLabel_at_, rd_Ins_kind, rd_Ins_op, rd_Ins_d, rd_Ins_aR, rd_Ins_aN, rd_Ins_bR, rd_Ins_bN, rd_Ins_name, rd_Ins_target, rd_Ent_pc, rd_Ent_val, rd_Ent_addr, rd_Ent_fro, rd_Ent_next, rd_Ent_done, rd_Ent_known, rd_Ent_fault, rd_Place_reg, rd_Place_n, rd_Place_secret, rd_Obs_kind, rd_Obs_at_, rd_Dir_kind, rd_Dir_n]
  try simp only [c_put] at hp
  repeat' first
    | refine br_not ?_
    | refine br_dec (fun _ => ?_) (fun _ => ?_)
    | refine br_beq (fun _ => ?_) (fun _ => ?_)
    | refine br_bne (fun _ => ?_) (fun _ => ?_)
    | refine br_holds (fun _ => ?_) (fun _ => ?_)
    | refine ⟨PreOk.mk ?_ rfl, ?_⟩
    | refine ⟨idx_ok _ _ _ rfl (by omega) (by omega), ?_⟩
    | refine ⟨okSh_ok _ _ _ (fun _ => rfl) (by omega) (by omega), ?_⟩
    | refine ⟨okSh_okD _ _ _ _ (fun _ => rfl) (by omega) (by omega), ?_⟩
    | refine ⟨aload_ok _ _ rfl (fun _ => rfl) (by omega) (by omega), ?_⟩
    | refine ⟨aload_okD _ _ _ rfl (fun _ => rfl) (by omega) (by omega), ?_⟩
    | refine ⟨astore_ok (by assumption) rfl (by omega) (by omega) (by decide), ?_⟩
    | refine ⟨app_ok (by assumption) rfl rfl (by simp only [List.length_cons, List.length_nil]; omega), ?_⟩
    | refine need_holds ?_ fun _ => ?_
    | refine all_holds fun y hy => ?_
    | refine ret_le ?_
  exact l_put0 l hp (0, [], 0) ⟨by simp, by simp, by simpa [bytesS] using OnL.nil⟩
def rnum (s : Sta) : RR := .c (.new 1 (rowsOn (numsS s)))
def c_aNum : FT (Sta × Unit) := ⟨86, fun s => [as_ s.1], rdS, fun s => SmallS s.1, fun s => rnum s.1, false, fun s => by simp [as_, rdS]⟩
noncomputable def a_aNum : FnA := (fnA Try.prog Try.f86 1 []).getD ⟨0, .skip, [], []⟩
def s_aNum : Sp := spT [] (fz := [64])
theorem s_aNum_sound : s_aNum.sound Try.prog := spT_sound fun e he => by cases he
set_option maxRecDepth 100000 in
theorem t_aNum (s : Sta) : a_aNum.start s_aNum 400 [as_ s] =
(VC.need ((List.all [[D.int IntKind.i64 (↑(List.length (rowsOn s.mem)) : Int)]] fun r ↦ List.length r == (1 : Nat)) = true ∧ (List.all [[D.int IntKind.i64 s.r0], [D.int IntKind.i64 s.r1], [D.int IntKind.i64 s.r2], [D.int IntKind.i64 s.r3]] fun r ↦ List.length r == (1 : Nat)) = true ∧ (List.length [[D.int IntKind.i64 s.r0], [D.int IntKind.i64 s.r1], [D.int IntKind.i64 s.r2], [D.int IntKind.i64 s.r3]] + List.length [[D.int IntKind.i64 (↑(List.length (rowsOn s.mem)) : Int)]] + (100 : Nat)) * (9 : Nat) ≤ (70368744177664 : Nat))
(VC.need (List.isEmpty [[D.int IntKind.i64 (↑(List.length (rowsOn s.mem)) : Int)]] = false)
(VC.need ((List.all (rowsOn s.mem) fun r ↦ List.length r == (1 : Nat)) = true ∧ (List.all [[D.int IntKind.i64 s.r0], [D.int IntKind.i64 s.r1], [D.int IntKind.i64 s.r2], [D.int IntKind.i64 s.r3], [D.int IntKind.i64 (↑(List.length (rowsOn s.mem)) : Int)]] fun r ↦ List.length r == (1 : Nat)) = true ∧ (List.length [[D.int IntKind.i64 s.r0], [D.int IntKind.i64 s.r1], [D.int IntKind.i64 s.r2], [D.int IntKind.i64 s.r3], [D.int IntKind.i64 (↑(List.length (rowsOn s.mem)) : Int)]] + List.length (rowsOn s.mem) + (100 : Nat)) * (9 : Nat) ≤ (70368744177664 : Nat))
(VC.need ((List.all [[D.int IntKind.i64 (↑(List.length (rowsOn s.stack)) : Int)]] fun r ↦ List.length r == (1 : Nat)) = true ∧ (List.all ([[D.int IntKind.i64 s.r0], [D.int IntKind.i64 s.r1], [D.int IntKind.i64 s.r2], [D.int IntKind.i64 s.r3], [D.int IntKind.i64 (↑(List.length (rowsOn s.mem)) : Int)]] ++ rowsOn s.mem) fun r ↦ List.length r == (1 : Nat)) = true ∧ (List.length ([[D.int IntKind.i64 s.r0], [D.int IntKind.i64 s.r1], [D.int IntKind.i64 s.r2], [D.int IntKind.i64 s.r3], [D.int IntKind.i64 (↑(List.length (rowsOn s.mem)) : Int)]] ++ rowsOn s.mem) + List.length [[D.int IntKind.i64 (↑(List.length (rowsOn s.stack)) : Int)]] + (100 : Nat)) * (9 : Nat) ≤ (70368744177664 : Nat))
(VC.need ((List.all (rowsOn s.stack) fun r ↦ List.length r == (1 : Nat)) = true ∧ (List.all ([[D.int IntKind.i64 s.r0], [D.int IntKind.i64 s.r1], [D.int IntKind.i64 s.r2], [D.int IntKind.i64 s.r3], [D.int IntKind.i64 (↑(List.length (rowsOn s.mem)) : Int)]] ++ rowsOn s.mem ++ [[D.int IntKind.i64 (↑(List.length (rowsOn s.stack)) : Int)]]) fun r ↦ List.length r == (1 : Nat)) = true ∧ (List.length ([[D.int IntKind.i64 s.r0], [D.int IntKind.i64 s.r1], [D.int IntKind.i64 s.r2], [D.int IntKind.i64 s.r3], [D.int IntKind.i64 (↑(List.length (rowsOn s.mem)) : Int)]] ++ rowsOn s.mem ++ [[D.int IntKind.i64 (↑(List.length (rowsOn s.stack)) : Int)]]) + List.length (rowsOn s.stack) + (100 : Nat)) * (9 : Nat) ≤ (70368744177664 : Nat))
(VC.need ((List.all [[D.int IntKind.i64 s.pc]] fun r ↦ List.length r == (1 : Nat)) = true ∧ (List.all ([[D.int IntKind.i64 s.r0], [D.int IntKind.i64 s.r1], [D.int IntKind.i64 s.r2], [D.int IntKind.i64 s.r3], [D.int IntKind.i64 (↑(List.length (rowsOn s.mem)) : Int)]] ++ rowsOn s.mem ++ [[D.int IntKind.i64 (↑(List.length (rowsOn s.stack)) : Int)]] ++ rowsOn s.stack) fun r ↦ List.length r == (1 : Nat)) = true ∧ (List.length ([[D.int IntKind.i64 s.r0], [D.int IntKind.i64 s.r1], [D.int IntKind.i64 s.r2], [D.int IntKind.i64 s.r3], [D.int IntKind.i64 (↑(List.length (rowsOn s.mem)) : Int)]] ++ rowsOn s.mem ++ [[D.int IntKind.i64 (↑(List.length (rowsOn s.stack)) : Int)]] ++ rowsOn s.stack) + List.length [[D.int IntKind.i64 s.pc]] + (100 : Nat)) * (9 : Nat) ≤ (70368744177664 : Nat))
(VC.ret (some (RR.c (Rc.new (1 : Nat) ([[D.int IntKind.i64 s.r0], [D.int IntKind.i64 s.r1], [D.int IntKind.i64 s.r2], [D.int IntKind.i64 s.r3], [D.int IntKind.i64 (↑(List.length (rowsOn s.mem)) : Int)]] ++ rowsOn s.mem ++ [[D.int IntKind.i64 (↑(List.length (rowsOn s.stack)) : Int)]] ++ rowsOn s.stack ++ [[D.int IntKind.i64 s.pc]]))))))))))) := by kernel_rfl
def c_rInts : FT (Sta × Unit) := ⟨100, fun s => [as_ s.1], rdS, fun s => SmallS s.1, fun s => rnum s.1, false, fun s => by simp [as_, rdS]⟩
noncomputable def a_rInts : FnA := (fnA Try.prog Try.f100 1 []).getD ⟨0, .skip, [], []⟩
def s_rInts : Sp := spT []
theorem s_rInts_sound : s_rInts.sound Try.prog := spT_sound fun e he => by cases he
set_option maxRecDepth 100000 in
theorem t_rInts (s : Sta) : a_rInts.start s_rInts 400 [as_ s] =
(VC.need ((List.all (rowsOn s.mem) fun r ↦ List.length r == (1 : Nat)) = true ∧ (List.all [[D.int IntKind.i64 s.r0], [D.int IntKind.i64 s.r1], [D.int IntKind.i64 s.r2], [D.int IntKind.i64 s.r3], [D.int IntKind.i64 (↑(List.length (rowsOn s.mem)) : Int)]] fun r ↦ List.length r == (1 : Nat)) = true ∧ (List.length [[D.int IntKind.i64 s.r0], [D.int IntKind.i64 s.r1], [D.int IntKind.i64 s.r2], [D.int IntKind.i64 s.r3], [D.int IntKind.i64 (↑(List.length (rowsOn s.mem)) : Int)]] + List.length (rowsOn s.mem) + (100 : Nat)) * (9 : Nat) ≤ (70368744177664 : Nat))
(VC.need ((List.all [[D.int IntKind.i64 (↑(List.length (rowsOn s.stack)) : Int)]] fun r ↦ List.length r == (1 : Nat)) = true ∧ (List.all ([[D.int IntKind.i64 s.r0], [D.int IntKind.i64 s.r1], [D.int IntKind.i64 s.r2], [D.int IntKind.i64 s.r3], [D.int IntKind.i64 (↑(List.length (rowsOn s.mem)) : Int)]] ++ rowsOn s.mem) fun r ↦ List.length r == (1 : Nat)) = true ∧ (List.length ([[D.int IntKind.i64 s.r0], [D.int IntKind.i64 s.r1], [D.int IntKind.i64 s.r2], [D.int IntKind.i64 s.r3], [D.int IntKind.i64 (↑(List.length (rowsOn s.mem)) : Int)]] ++ rowsOn s.mem) + List.length [[D.int IntKind.i64 (↑(List.length (rowsOn s.stack)) : Int)]] + (100 : Nat)) * (9 : Nat) ≤ (70368744177664 : Nat))
(VC.need ((List.all (rowsOn s.stack) fun r ↦ List.length r == (1 : Nat)) = true ∧ (List.all ([[D.int IntKind.i64 s.r0], [D.int IntKind.i64 s.r1], [D.int IntKind.i64 s.r2], [D.int IntKind.i64 s.r3], [D.int IntKind.i64 (↑(List.length (rowsOn s.mem)) : Int)]] ++ rowsOn s.mem ++ [[D.int IntKind.i64 (↑(List.length (rowsOn s.stack)) : Int)]]) fun r ↦ List.length r == (1 : Nat)) = true ∧ (List.length ([[D.int IntKind.i64 s.r0], [D.int IntKind.i64 s.r1], [D.int IntKind.i64 s.r2], [D.int IntKind.i64 s.r3], [D.int IntKind.i64 (↑(List.length (rowsOn s.mem)) : Int)]] ++ rowsOn s.mem ++ [[D.int IntKind.i64 (↑(List.length (rowsOn s.stack)) : Int)]]) + List.length (rowsOn s.stack) + (100 : Nat)) * (9 : Nat) ≤ (70368744177664 : Nat))
(VC.need ((List.all [[D.int IntKind.i64 s.pc]] fun r ↦ List.length r == (1 : Nat)) = true ∧ (List.all ([[D.int IntKind.i64 s.r0], [D.int IntKind.i64 s.r1], [D.int IntKind.i64 s.r2], [D.int IntKind.i64 s.r3], [D.int IntKind.i64 (↑(List.length (rowsOn s.mem)) : Int)]] ++ rowsOn s.mem ++ [[D.int IntKind.i64 (↑(List.length (rowsOn s.stack)) : Int)]] ++ rowsOn s.stack) fun r ↦ List.length r == (1 : Nat)) = true ∧ (List.length ([[D.int IntKind.i64 s.r0], [D.int IntKind.i64 s.r1], [D.int IntKind.i64 s.r2], [D.int IntKind.i64 s.r3], [D.int IntKind.i64 (↑(List.length (rowsOn s.mem)) : Int)]] ++ rowsOn s.mem ++ [[D.int IntKind.i64 (↑(List.length (rowsOn s.stack)) : Int)]] ++ rowsOn s.stack) + List.length [[D.int IntKind.i64 s.pc]] + (100 : Nat)) * (9 : Nat) ≤ (70368744177664 : Nat))
(VC.ret (some (RR.c (Rc.new (1 : Nat) ([[D.int IntKind.i64 s.r0], [D.int IntKind.i64 s.r1], [D.int IntKind.i64 s.r2], [D.int IntKind.i64 s.r3], [D.int IntKind.i64 (↑(List.length (rowsOn s.mem)) : Int)]] ++ rowsOn s.mem ++ [[D.int IntKind.i64 (↑(List.length (rowsOn s.stack)) : Int)]] ++ rowsOn s.stack ++ [[D.int IntKind.i64 s.pc]]))))))))) := by kernel_rfl
theorem all1 (l : List Int) : ((rowsOn l).all fun r => r.length == 1) = true := rowsOn_all l 1 rfl
theorem rnum_eq (s : Sta) : ([[D.int .i64 s.r0], [.int .i64 s.r1], [.int .i64 s.r2], [.int .i64 s.r3], [.int .i64 ((rowsOn s.mem).length : Int)]] ++ rowsOn s.mem ++ [[.int .i64 ((rowsOn s.stack).length : Int)]] ++ rowsOn s.stack ++ [[.int .i64 s.pc]]) = rowsOn (numsS s) := by
  simp only [numsS, rowsOn_append, rowsOn_length]
  rfl
theorem c_aNum_good : c_aNum.fe.Good Try.prog := by
  refine FT.good c_aNum ⟨Try.f86, by kernel_rfl, by decide +kernel, by kernel_rfl⟩ (fun ⟨s, u⟩ => by first | rfl | simp [c_aNum, rrRef, rss, rnewI, rnewE, rstab, rplaces, ri, rb, rib, rnum, Sta.fresh]) fun ⟨s, u⟩ hp => ?_
  refine acalls_le s_aNum_sound (fn := Try.f86) (a := a_aNum) (nargs := 1) (tbl := []) (by kernel_rfl) (by kernel_rfl) rfl (m := 400) ?_
  show VC.holds _ _ _ (a_aNum.start s_aNum 400 [as_ s])
  rw [t_aNum]
  try simp only [asRows_sl, asInt_int, asBool_bool, asStr_str, listOf_rowsOn, List.drop_zero, Prg.eta, Sta.eta, rowsOn_length, getD_drop, Nat.reduceAdd, rd_int, rd_PMem_name, rd_PMem_secret, rd_PMem_n, rd_PLabel_name, rd_PLabel_at_, rd_Ins_kind, rd_Ins_op, rd_Ins_d, rd_Ins_aR, rd_Ins_aN, rd_Ins_bR, rd_Ins_bN, rd_Ins_name, rd_Ins_target, rd_Ent_pc, rd_Ent_val, rd_Ent_addr, rd_Ent_fro, rd_Ent_next, rd_Ent_done, rd_Ent_known, rd_Ent_fault, rd_Place_reg, rd_Place_n, rd_Place_secret, rd_Obs_kind, rd_Obs_at_, rd_Dir_kind, rd_Dir_n]
  try simp only [c_aNum] at hp
  obtain ⟨h1, h2⟩ := hp
  have e := rnum_eq s
  rw [rowsOn_length, rowsOn_length] at e
  rw [e]
  repeat' first
    | refine br_not ?_
    | refine br_dec (fun _ => ?_) (fun _ => ?_)
    | refine br_beq (fun _ => ?_) (fun _ => ?_)
    | refine br_bne (fun _ => ?_) (fun _ => ?_)
    | refine br_holds (fun _ => ?_) (fun _ => ?_)
    | refine ⟨PreOk.mk ?_ rfl, ?_⟩
    | refine ⟨idx_ok _ _ _ rfl (by omega) (by omega), ?_⟩
    | refine ⟨okSh_ok _ _ _ (fun _ => rfl) (by omega) (by omega), ?_⟩
    | refine ⟨okSh_okD _ _ _ _ (fun _ => rfl) (by omega) (by omega), ?_⟩
    | refine ⟨aload_ok _ _ rfl (fun _ => rfl) (by omega) (by omega), ?_⟩
    | refine ⟨aload_okD _ _ _ rfl (fun _ => rfl) (by omega) (by omega), ?_⟩
    | refine ⟨astore_ok (by assumption) rfl (by omega) (by omega) (by decide), ?_⟩
    | refine ⟨app_ok (by assumption) rfl rfl (by simp only [List.length_cons, List.length_nil]; omega), ?_⟩
    | refine need_holds ?_ fun _ => ?_
    | refine all_holds fun y hy => ?_
    | refine ret_le ?_
  all_goals try (refine ⟨?_, ?_, ?_⟩ <;> simp [all1, rowsOn_length] <;> omega)
  · rfl
  · exact RR.le_refl _
theorem c_rInts_good : c_rInts.fe.Good Try.prog := by
  refine FT.good c_rInts ⟨Try.f100, by kernel_rfl, by decide +kernel, by kernel_rfl⟩ (fun ⟨s, u⟩ => by first | rfl | simp [c_rInts, rrRef, rss, rnewI, rnewE, rstab, rplaces, ri, rb, rib, rnum, Sta.fresh]) fun ⟨s, u⟩ hp => ?_
  refine acalls_le s_rInts_sound (fn := Try.f100) (a := a_rInts) (nargs := 1) (tbl := []) (by kernel_rfl) (by kernel_rfl) rfl (m := 400) ?_
  show VC.holds _ _ _ (a_rInts.start s_rInts 400 [as_ s])
  rw [t_rInts]
  try simp only [asRows_sl, asInt_int, asBool_bool, asStr_str, listOf_rowsOn, List.drop_zero, Prg.eta, Sta.eta, rowsOn_length, getD_drop, Nat.reduceAdd, rd_int, rd_PMem_name, rd_PMem_secret, rd_PMem_n, rd_PLabel_name, rd_PLabel_at_, rd_Ins_kind, rd_Ins_op, rd_Ins_d, rd_Ins_aR, rd_Ins_aN, rd_Ins_bR, rd_Ins_bN, rd_Ins_name, rd_Ins_target, rd_Ent_pc, rd_Ent_val, rd_Ent_addr, rd_Ent_fro, rd_Ent_next, rd_Ent_done, rd_Ent_known, rd_Ent_fault, rd_Place_reg, rd_Place_n, rd_Place_secret, rd_Obs_kind, rd_Obs_at_, rd_Dir_kind, rd_Dir_n]
  try simp only [c_rInts] at hp
  obtain ⟨h1, h2⟩ := hp
  have e := rnum_eq s
  rw [rowsOn_length, rowsOn_length] at e
  rw [e]
  repeat' first
    | refine br_not ?_
    | refine br_dec (fun _ => ?_) (fun _ => ?_)
    | refine br_beq (fun _ => ?_) (fun _ => ?_)
    | refine br_bne (fun _ => ?_) (fun _ => ?_)
    | refine br_holds (fun _ => ?_) (fun _ => ?_)
    | refine ⟨PreOk.mk ?_ rfl, ?_⟩
    | refine ⟨idx_ok _ _ _ rfl (by omega) (by omega), ?_⟩
    | refine ⟨okSh_ok _ _ _ (fun _ => rfl) (by omega) (by omega), ?_⟩
    | refine ⟨okSh_okD _ _ _ _ (fun _ => rfl) (by omega) (by omega), ?_⟩
    | refine ⟨aload_ok _ _ rfl (fun _ => rfl) (by omega) (by omega), ?_⟩
    | refine ⟨aload_okD _ _ _ rfl (fun _ => rfl) (by omega) (by omega), ?_⟩
    | refine ⟨astore_ok (by assumption) rfl (by omega) (by omega) (by decide), ?_⟩
    | refine ⟨app_ok (by assumption) rfl rfl (by simp only [List.length_cons, List.length_nil]; omega), ?_⟩
    | refine need_holds ?_ fun _ => ?_
    | refine all_holds fun y hy => ?_
    | refine ret_le ?_
  all_goals try (refine ⟨?_, ?_, ?_⟩ <;> simp [all1, rowsOn_length] <;> omega)
  · exact RR.le_refl _
def rby (l : List By) : RR := .c (.new 1 (rowsOn l))
def codeS (s : Sta) : List By := bytesS (numsS s)
theorem nums_len (s : Sta) : (numsS s).length = s.mem.length + s.stack.length + 7 := by simp [numsS]; omega
def c_aCode : FT (Sta × Unit) := ⟨39, fun s => [as_ s.1], rdS, fun s => SmallS s.1, fun s => rby (codeS s.1), false, fun s => by simp [as_, rdS]⟩
noncomputable def a_aCode : FnA := (fnA Try.prog Try.f39 1 []).getD ⟨0, .skip, [], []⟩
noncomputable def v_aNum : Sta × Unit → List Int := fun x => numsS x.1
noncomputable def sh_aNum : List Int → RR := fun l => .c (.new 1 (rowsOn l))
theorem e_aNum (x : Sta × Unit) : sh_aNum (v_aNum x) = c_aNum.ans x := rfl
noncomputable def s_aCode : Sp := spT [c_aNum.gfe v_aNum sh_aNum e_aNum, c_put.fe]
theorem s_aCode_sound : s_aCode.sound Try.prog := spT_sound fun e he => by
  simp only [List.mem_cons, List.not_mem_nil, or_false] at he
  rcases he with rfl | rfl
  · exact FT.gfe_good c_aNum_good
  · exact c_put_good
set_option maxRecDepth 100000 in
theorem t_aCode (s : Sta) : a_aCode.start s_aCode 400 [as_ s] =
(VC.need (PreOk c_aNum (Sta.of (Sta.cells s), ()) [A.agg (Sta.cells s)])
(VC.all (v_aNum (Sta.of (Sta.cells s), ())) fun (y1 : List Int) =>
(VC.need (PreOk c_put (y1, ()) [A.c (D.sl (rowsOn y1))])
(VC.ret (some (RR.c (Rc.new (1 : Nat) (rowsOn (bytesS (listOf Int (rowsOn y1))))))))))) := by kernel_rfl
theorem c_aCode_good : c_aCode.fe.Good Try.prog := by
  refine FT.good c_aCode ⟨Try.f39, by kernel_rfl, by decide +kernel, by kernel_rfl⟩ (fun ⟨s, u⟩ => by first | rfl | simp [c_aCode, rrRef, rss, rnewI, rnewE, rstab, rplaces, ri, rb, rib, rnum, rby, Sta.fresh]) fun ⟨s, u⟩ hp => ?_
  refine acalls_le s_aCode_sound (fn := Try.f39) (a := a_aCode) (nargs := 1) (tbl := []) (by kernel_rfl) (by kernel_rfl) rfl (m := 400) ?_
  show VC.holds _ _ _ (a_aCode.start s_aCode 400 [as_ s])
  rw [t_aCode]
  try simp only [asRows_sl, asInt_int, asBool_bool, asStr_str, listOf_rowsOn, List.drop_zero, Prg.eta, Sta.eta, rowsOn_length, getD_drop, Nat.reduceAdd, rd_int, rd_PMem_name, rd_PMem_secret, rd_PMem_n, rd_PLabel_name, rd_PLabel_at_, rd_Ins_kind, rd_Ins_op, rd_Ins_d, rd_Ins_aR, rd_Ins_aN, rd_Ins_bR, rd_Ins_bN, rd_Ins_name, rd_Ins_target, rd_Ent_pc, rd_Ent_val, rd_Ent_addr, rd_Ent_fro, rd_Ent_next, rd_Ent_done, rd_Ent_known, rd_Ent_fault, rd_Place_reg, rd_Place_n, rd_Place_secret, rd_Obs_kind, rd_Obs_at_, rd_Dir_kind, rd_Dir_n]
  try simp only [c_aCode] at hp
  obtain ⟨h1, h2⟩ := hp
  have hl := nums_len s
  simp only [Sta.of_cells]
  repeat' first
    | refine br_not ?_
    | refine br_dec (fun _ => ?_) (fun _ => ?_)
    | refine br_beq (fun _ => ?_) (fun _ => ?_)
    | refine br_bne (fun _ => ?_) (fun _ => ?_)
    | refine br_holds (fun _ => ?_) (fun _ => ?_)
    | refine ⟨PreOk.mk ?_ rfl, ?_⟩
    | refine ⟨idx_ok _ _ _ rfl (by omega) (by omega), ?_⟩
    | refine ⟨okSh_ok _ _ _ (fun _ => rfl) (by omega) (by omega), ?_⟩
    | refine ⟨okSh_okD _ _ _ _ (fun _ => rfl) (by omega) (by omega), ?_⟩
    | refine ⟨aload_ok _ _ rfl (fun _ => rfl) (by omega) (by omega), ?_⟩
    | refine ⟨aload_okD _ _ _ rfl (fun _ => rfl) (by omega) (by omega), ?_⟩
    | refine ⟨astore_ok (by assumption) rfl (by omega) (by omega) (by decide), ?_⟩
    | refine ⟨app_ok (by assumption) rfl rfl (by simp only [List.length_cons, List.length_nil]; omega), ?_⟩
    | refine need_holds ?_ fun _ => ?_
    | refine all_holds fun y hy => ?_
    | refine ret_le ?_
  · exact ⟨h1, h2⟩
  · subst y
    show (numsS s).length ≤ 1000000000
    omega
  · subst y
    exact RR.le_refl _
def c_rPut : FT (List Int × Unit) := ⟨89, fun l => [al l.1], rdL, fun l => l.1.length ≤ 1000000000, fun l => .c (.new 1 (rowsOn (bytesS l.1))), false, fun l => by simp [al, rdL]⟩
noncomputable def a_rPut : FnA := (fnA Try.prog Try.f89 1 [(3, [0, 3, 4, 1000003000000900003001]), (10, [0, 3, 4, 5, 6, 1000003000000900003001])]).getD ⟨0, .skip, [], []⟩
def s_rPut : Sp := spT []
theorem s_rPut_sound : s_rPut.sound Try.prog := spT_sound fun e he => by cases he
def F_rPut (l : List Int) (k : Int) (R : List (List D)) (n : Nat) : St := ⟨mkS 47 [(0, vr (rowsOn l)), (3, vo 900003 n), (4, vi k)], [(900003, ba 1 R)]⟩
def F_rPuti (l : List Int) (k v s : Int) (R : List (List D)) (n : Nat) : St := ⟨mkS 47 [(0, vr (rowsOn l)), (3, vo 900003 n), (4, vi k), (5, vi v), (6, vi s)], [(900003, ba 1 R)]⟩
set_option maxRecDepth 100000 in
theorem t_rPut (l : List Int) : a_rPut.start s_rPut 400 [al l] =
(FnA.at_ a_rPut 0 (F_rPut l (0 : Int) [] (0 : Nat))) := by kernel_rfl
set_option maxRecDepth 100000 in
theorem t_rPut0 (l : List Int) (k : Int) (R : List (List D)) (n : Nat) : a_rPut.round s_rPut 400 0 (F_rPut l k R n) =
(VC.br (decide (k < (↑(List.length (rowsOn l)) : Int)))
 (VC.need ((0 : Int) ≤ k ∧ k < (↑(List.length (rowsOn l)) : Int) ∧ List.length (rowAt (rowsOn l) (Int.toNat k)) = (1 : Nat))
 (VC.need (okSh [Kd.int IntKind.i64] (rowAt (rowsOn l) (Int.toNat k)))
 (VC.br (decide ((-1 : Int) ≤ asInt (List.getD (rowAt (rowsOn l) (Int.toNat k)) (0 : Nat) D.nilp)))
  (VC.br (decide (asInt (List.getD (rowAt (rowsOn l) (Int.toNat k)) (0 : Nat) D.nilp) ≤ (253 : Int)))
   (VC.need ((List.all [[D.int IntKind.u8 (IntKind.wrap IntKind.u8 (IntKind.wrap IntKind.i64 (asInt (List.getD (rowAt (rowsOn l) (Int.toNat k)) (0 : Nat) D.nilp) + (1 : Int))))]] fun r ↦ List.length r == (1 : Nat)) = true ∧ (List.all R fun r ↦ List.length r == (1 : Nat)) = true ∧ (List.length R + List.length [[D.int IntKind.u8 (IntKind.wrap IntKind.u8 (IntKind.wrap IntKind.i64 (asInt (List.getD (rowAt (rowsOn l) (Int.toNat k)) (0 : Nat) D.nilp) + (1 : Int))))]] + (100 : Nat)) * (2 : Nat) ≤ (70368744177664 : Nat))
   (FnA.at_ a_rPut 0 (F_rPut l (IntKind.wrap IntKind.i64 (k + (1 : Int))) (R ++ [[D.int IntKind.u8 (IntKind.wrap IntKind.u8 (IntKind.wrap IntKind.i64 (asInt (List.getD (rowAt (rowsOn l) (Int.toNat k)) (0 : Nat) D.nilp) + (1 : Int))))]]) (List.length R + List.length [[D.int IntKind.u8 (IntKind.wrap IntKind.u8 (IntKind.wrap IntKind.i64 (asInt (List.getD (rowAt (rowsOn l) (Int.toNat k)) (0 : Nat) D.nilp) + (1 : Int))))]]))))
   (VC.need ((List.all [[D.int IntKind.u8 (255 : Int)]] fun r ↦ List.length r == (1 : Nat)) = true ∧ (List.all R fun r ↦ List.length r == (1 : Nat)) = true ∧ (List.length R + (1 : Nat) + (100 : Nat)) * (2 : Nat) ≤ (70368744177664 : Nat))
   (FnA.at_ a_rPut 1 (F_rPuti l k (asInt (List.getD (rowAt (rowsOn l) (Int.toNat k)) (0 : Nat) D.nilp)) (7 : Int) (R ++ [[D.int IntKind.u8 (255 : Int)]]) (List.length R + (1 : Nat))))))
  (VC.need ((List.all [[D.int IntKind.u8 (255 : Int)]] fun r ↦ List.length r == (1 : Nat)) = true ∧ (List.all R fun r ↦ List.length r == (1 : Nat)) = true ∧ (List.length R + (1 : Nat) + (100 : Nat)) * (2 : Nat) ≤ (70368744177664 : Nat))
  (FnA.at_ a_rPut 1 (F_rPuti l k (asInt (List.getD (rowAt (rowsOn l) (Int.toNat k)) (0 : Nat) D.nilp)) (7 : Int) (R ++ [[D.int IntKind.u8 (255 : Int)]]) (List.length R + (1 : Nat))))))))
 (VC.ret (some (RR.c (Rc.new (1 : Nat) R))))) := by kernel_rfl
set_option maxRecDepth 100000 in
theorem t_rPut1 (l : List Int) (k v s : Int) (R : List (List D)) (n : Nat) : a_rPut.round s_rPut 400 1 (F_rPuti l k v s R n) =
(VC.br (decide ((0 : Int) ≤ s))
 (VC.need ((0 : Int) ≤ IntKind.wrap IntKind.u64 (IntKind.wrap IntKind.i64 ((8 : Int) * s)))
 (VC.need ((List.all [[D.int IntKind.u8 (IntKind.wrap IntKind.u8 (Int.fdiv (IntKind.wrap IntKind.u64 v) ((2 : Int) ^ min (Int.toNat (IntKind.wrap IntKind.u64 (IntKind.wrap IntKind.i64 ((8 : Int) * s)))) (64 : Nat))))]] fun r ↦ List.length r == (1 : Nat)) = true ∧ (List.all R fun r ↦ List.length r == (1 : Nat)) = true ∧ (List.length R + List.length [[D.int IntKind.u8 (IntKind.wrap IntKind.u8 (Int.fdiv (IntKind.wrap IntKind.u64 v) ((2 : Int) ^ min (Int.toNat (IntKind.wrap IntKind.u64 (IntKind.wrap IntKind.i64 ((8 : Int) * s)))) (64 : Nat))))]] + (100 : Nat)) * (2 : Nat) ≤ (70368744177664 : Nat))
 (FnA.at_ a_rPut 1 (F_rPuti l k v (IntKind.wrap IntKind.i64 (s - (1 : Int))) (R ++ [[D.int IntKind.u8 (IntKind.wrap IntKind.u8 (Int.fdiv (IntKind.wrap IntKind.u64 v) ((2 : Int) ^ min (Int.toNat (IntKind.wrap IntKind.u64 (IntKind.wrap IntKind.i64 ((8 : Int) * s)))) (64 : Nat))))]]) (List.length R + List.length [[D.int IntKind.u8 (IntKind.wrap IntKind.u8 (Int.fdiv (IntKind.wrap IntKind.u64 v) ((2 : Int) ^ min (Int.toNat (IntKind.wrap IntKind.u64 (IntKind.wrap IntKind.i64 ((8 : Int) * s)))) (64 : Nat))))]])))))
 (FnA.at_ a_rPut 0 (F_rPut l (IntKind.wrap IntKind.i64 (k + (1 : Int))) R n))) := by kernel_rfl
theorem l_rPut1 (l : List Int) (k v : Int) (Q : RR → Prop) (out : List By) (hl : l.length ≤ 1000000000) (hk : 0 ≤ k ∧ k < l.length) (ho : out.length ≤ 10000000000)
    (cont : ∀ R n, OnL R n out → (a_rPut.at_ 0 (F_rPut l (k + 1) R n)).holds s_rPut.cx a_rPut.rs Q) : ∀ (j : Nat) (s : Int) (R : List (List D)) (n : Nat) (acc : List By), j ≤ 8 → s = (j : Int) - 1 → OnL R n acc → acc ++ by8 v j = out → (a_rPut.at_ 1 (F_rPuti l k v s R n)).holds s_rPut.cx a_rPut.rs Q := by
  intro j
  induction j with
  | zero =>
    intro s R n acc _ hs h1 h2
    refine at_of_round s_rPut_sound (m := 400) ?_
    rw [t_rPut1, wrap_small (k + 1) (by omega) (by omega)]
    refine br_dec (fun h => by omega) (fun h => ?_)
    refine cont R n ?_
    rw [← h2]
    simpa [by8] using h1
  | succ j ih =>
    intro s R n acc hj hs h1 h2
    refine at_of_round s_rPut_sound (m := 400) ?_
    have hlen : acc.length + (j + 1) = out.length := by rw [← h2, List.length_append, by8_len]
    have e0 : IntKind.wrap .u64 (8 * s) = 8 * s := by
      have : IntKind.wrap .u64 (8 * s) = (8 * s) % 18446744073709551616 := rfl
      omega
    rw [t_rPut1, wrap_small (k + 1) (by omega) (by omega), wrap_small (s - 1) (by omega) (by omega), wrap_small (8 * s) (by omega) (by omega), e0]
    have e : min (Int.toNat (8 * s)) 64 = 8 * j := by omega
    rw [e]
    refine br_dec (fun h => ?_) (fun h => by omega)
    refine ⟨by omega, app_ok h1 rfl rfl (by simp only [List.length_cons, List.length_nil]; omega), ?_⟩
    refine ih (s - 1) _ _ _ (by omega) (by omega) (h1.snoc (⟨_⟩ : By)) ?_
    rw [← h2, List.append_assoc]
    rfl
theorem l_rPut0 (l : List Int) (hl : l.length ≤ 1000000000) : ∀ i : Int × List (List D) × Nat, (fun (i : Int × List (List D) × Nat) => 0 ≤ i.1 ∧ i.1 ≤ l.length ∧ OnL i.2.1 i.2.2 (bytesS (l.take i.1.toNat))) i → (a_rPut.at_ 0 ((fun (i : Int × List (List D) × Nat) => F_rPut l i.1 i.2.1 i.2.2) i)).holds s_rPut.cx a_rPut.rs (fun r => r.le (.c (.new 1 (rowsOn (bytesS l))))) := by
  refine loop_rule (a := a_rPut) (j := 0) (m := 400) s_rPut_sound (fun (i : Int × List (List D) × Nat) => F_rPut l i.1 i.2.1 i.2.2) (fun (i : Int × List (List D) × Nat) => 0 ≤ i.1 ∧ i.1 ≤ l.length ∧ OnL i.2.1 i.2.2 (bytesS (l.take i.1.toNat))) (fun (i : Int × List (List D) × Nat) => ((l.length : Int) - i.1).toNat) ?_
  rintro ⟨k, R, n⟩ h_inv ih
  try dsimp only at h_inv
  replace ih := fun (v0 : Int) (v1 : List (List D)) (v2 : Nat) => ih (v0, v1, v2)
  try dsimp only at ih
  show VC.holds _ _ _ (a_rPut.round s_rPut 400 0 (F_rPut l k R n))
  rw [t_rPut0]
  try simp only [asRows_sl, asInt_int, asBool_bool, asStr_str, listOf_rowsOn, List.drop_zero, Prg.eta, Sta.eta, rowsOn_length, getD_drop, Nat.reduceAdd, rd_int, rd_PMem_name, rd_PMem_secret, rd_PMem_n, rd_PLabel_name, rd_PLabel_at_, rd_Ins_kind, rd_Ins_op, rd_Ins_d, rd_Ins_aR, rd_Ins_aN, rd_Ins_bR, rd_Ins_bN, rd_Ins_name, rd_Ins_target, rd_Ent_pc, rd_Ent_val, rd_Ent_addr, rd_Ent_fro, rd_Ent_next, rd_Ent_done, rd_Ent_known, rd_Ent_fault, rd_Place_reg, rd_Place_n, rd_Place_secret, rd_Obs_kind, rd_Obs_at_, rd_Dir_kind, rd_Dir_n]
  obtain ⟨h0, h1, h2⟩ := h_inv
  have w1 : IntKind.wrap .i64 (k + 1) = k + 1 := wrap_small _ (by omega) (by omega)
  have hb := bytesS_take_len l k.toNat hl
  try rw [w1]
  repeat' first
    | refine br_not ?_
    | refine br_dec (fun _ => ?_) (fun _ => ?_)
    | refine br_beq (fun _ => ?_) (fun _ => ?_)
    | refine br_bne (fun _ => ?_) (fun _ => ?_)
    | refine br_holds (fun _ => ?_) (fun _ => ?_)
    | refine ⟨PreOk.mk ?_ rfl, ?_⟩
    | refine ⟨idx_ok _ _ _ rfl (by omega) (by omega), ?_⟩
    | refine ⟨okSh_ok _ _ _ (fun _ => rfl) (by omega) (by omega), ?_⟩
    | refine ⟨okSh_okD _ _ _ _ (fun _ => rfl) (by omega) (by omega), ?_⟩
    | refine ⟨aload_ok _ _ rfl (fun _ => rfl) (by omega) (by omega), ?_⟩
    | refine ⟨aload_okD _ _ _ rfl (fun _ => rfl) (by omega) (by omega), ?_⟩
    | refine ⟨astore_ok (by assumption) rfl (by omega) (by omega) (by decide), ?_⟩
    | refine ⟨app_ok (by assumption) rfl rfl (by simp only [List.length_cons, List.length_nil]; omega), ?_⟩
    | refine need_holds ?_ fun _ => ?_
    | refine all_holds fun y hy => ?_
    | refine ret_le ?_
  · rename_i hk _ _
    refine ih _ _ _ ⟨by omega, by omega, ?_⟩ (by omega)
    rw [take_rd l k h0 hk, bytesS_snoc]
    have e : bytes1 (rd l k) = [⟨IntKind.wrap .u8 (IntKind.wrap .i64 (rd l k + 1))⟩] := by unfold bytes1; rw [if_pos ⟨‹_›, ‹_›⟩]
    rw [e]
    exact h2.snoc (⟨_⟩ : By)
  · rename_i hk _ _
    have e : bytes1 (rd l k) = ⟨255⟩ :: by8 (rd l k) 8 := by unfold bytes1; rw [if_neg (by omega)]
    have hb' := bytesS_take_len l (k + 1).toNat hl
    refine l_rPut1 l k (rd l k) _ (bytesS (l.take (k + 1).toNat)) hl ⟨h0, hk⟩ (by omega) (fun R n h => ih _ _ _ ⟨by omega, by omega, h⟩ (by omega)) 8 7 _ _ _ (by omega) (by omega) (h2.snoc (⟨255⟩ : By)) ?_
    rw [take_rd l k h0 hk, bytesS_snoc, e]
    simp
  · rename_i hk _
    have e : bytes1 (rd l k) = ⟨255⟩ :: by8 (rd l k) 8 := by unfold bytes1; rw [if_neg (by omega)]
    have hb' := bytesS_take_len l (k + 1).toNat hl
    refine l_rPut1 l k (rd l k) _ (bytesS (l.take (k + 1).toNat)) hl ⟨h0, hk⟩ (by omega) (fun R n h => ih _ _ _ ⟨by omega, by omega, h⟩ (by omega)) 8 7 _ _ _ (by omega) (by omega) (h2.snoc (⟨255⟩ : By)) ?_
    rw [take_rd l k h0 hk, bytesS_snoc, e]
    simp
  · have hk : k.toNat = l.length := by omega
    rw [hk, List.take_length] at h2
    rw [h2.1]
    exact RR.le_refl _
theorem c_rPut_good : c_rPut.fe.Good Try.prog := by
  refine FT.good c_rPut ⟨Try.f89, by kernel_rfl, by decide +kernel, by kernel_rfl⟩ (fun ⟨l, u⟩ => by first | rfl | simp [c_rPut, rrRef, rss, rnewI, rnewE, rstab, rplaces, ri, rb, rib, rnum, rby, Sta.fresh]) fun ⟨l, u⟩ hp => ?_
  refine acalls_le s_rPut_sound (fn := Try.f89) (a := a_rPut) (nargs := 1) (tbl := [(3, [0, 3, 4, 1000003000000900003001]), (10, [0, 3, 4, 5, 6, 1000003000000900003001])]) (by kernel_rfl) (by kernel_rfl) rfl (m := 400) ?_
  show VC.holds _ _ _ (a_rPut.start s_rPut 400 [al l])
  rw [t_rPut]
  try simp only [asRows_sl, asInt_int, asBool_bool, asStr_str, listOf_rowsOn, List.drop_zero, Prg.eta, Sta.eta, rowsOn_length, getD_drop, Nat.reduceAdd, rd_int, rd_PMem_name, rd_PMem_secret, rd_PMem_n, rd_PLabel_name, rd_PLabel_at_, rd_Ins_kind, rd_Ins_op, rd_Ins_d, rd_Ins_aR, rd_Ins_aN, rd_Ins_bR, rd_Ins_bN, rd_Ins_name, rd_Ins_target, rd_Ent_pc, rd_Ent_val, rd_Ent_addr, rd_Ent_fro, rd_Ent_next, rd_Ent_done, rd_Ent_known, rd_Ent_fault, rd_Place_reg, rd_Place_n, rd_Place_secret, rd_Obs_kind, rd_Obs_at_, rd_Dir_kind, rd_Dir_n]
  try simp only [c_rPut] at hp
  repeat' first
    | refine br_not ?_
    | refine br_dec (fun _ => ?_) (fun _ => ?_)
    | refine br_beq (fun _ => ?_) (fun _ => ?_)
    | refine br_bne (fun _ => ?_) (fun _ => ?_)
    | refine br_holds (fun _ => ?_) (fun _ => ?_)
    | refine ⟨PreOk.mk ?_ rfl, ?_⟩
    | refine ⟨idx_ok _ _ _ rfl (by omega) (by omega), ?_⟩
    | refine ⟨okSh_ok _ _ _ (fun _ => rfl) (by omega) (by omega), ?_⟩
    | refine ⟨okSh_okD _ _ _ _ (fun _ => rfl) (by omega) (by omega), ?_⟩
    | refine ⟨aload_ok _ _ rfl (fun _ => rfl) (by omega) (by omega), ?_⟩
    | refine ⟨aload_okD _ _ _ rfl (fun _ => rfl) (by omega) (by omega), ?_⟩
    | refine ⟨astore_ok (by assumption) rfl (by omega) (by omega) (by decide), ?_⟩
    | refine ⟨app_ok (by assumption) rfl rfl (by simp only [List.length_cons, List.length_nil]; omega), ?_⟩
    | refine need_holds ?_ fun _ => ?_
    | refine all_holds fun y hy => ?_
    | refine ret_le ?_
  exact l_rPut0 l hp (0, [], 0) ⟨by simp, by simp, by simpa [bytesS] using OnL.nil⟩
def c_rSameI : FT (List Int × List Int) := ⟨99, fun x => [al x.1, al x.2], rdLL, fun x => x.1.length ≤ 1000000000, fun x => rb (decide (x.1 = x.2)), false, fun x => by simp [al, rdLL]⟩
noncomputable def a_rSameI : FnA := (fnA Try.prog Try.f99 2 [(4, [0, 1, 5])]).getD ⟨0, .skip, [], []⟩
def s_rSameI : Sp := spT []
theorem s_rSameI_sound : s_rSameI.sound Try.prog := spT_sound fun e he => by cases he
def F_rSameI (a b : List Int) (k : Int) : St := ⟨mkS 26 [(0, vr (rowsOn a)), (1, vr (rowsOn b)), (5, vi k)], []⟩
set_option maxRecDepth 100000 in
theorem t_rSameI (a b : List Int) : a_rSameI.start s_rSameI 400 [al a, al b] =
(VC.br ((↑(List.length (rowsOn a)) : Int) != (↑(List.length (rowsOn b)) : Int))
 (VC.ret (some (RR.c (Rc.d (D.bool false)))))
 (FnA.at_ a_rSameI 0 (F_rSameI a b (0 : Int)))) := by kernel_rfl
set_option maxRecDepth 100000 in
theorem t_rSameI0 (a b : List Int) (k : Int) : a_rSameI.round s_rSameI 400 0 (F_rSameI a b k) =
(VC.br (decide (k < (↑(List.length (rowsOn a)) : Int)))
 (VC.need ((0 : Int) ≤ k ∧ k < (↑(List.length (rowsOn a)) : Int) ∧ List.length (rowAt (rowsOn a) (Int.toNat k)) = (1 : Nat))
 (VC.need (okSh [Kd.int IntKind.i64] (rowAt (rowsOn a) (Int.toNat k)))
 (VC.need ((0 : Int) ≤ k ∧ k < (↑(List.length (rowsOn b)) : Int) ∧ List.length (rowAt (rowsOn b) (Int.toNat k)) = (1 : Nat))
 (VC.need (okSh [Kd.int IntKind.i64] (rowAt (rowsOn b) (Int.toNat k)))
 (VC.br (asInt (List.getD (rowAt (rowsOn a) (Int.toNat k)) (0 : Nat) D.nilp) != asInt (List.getD (rowAt (rowsOn b) (Int.toNat k)) (0 : Nat) D.nilp))
  (VC.ret (some (RR.c (Rc.d (D.bool false)))))
  (FnA.at_ a_rSameI 0 (F_rSameI a b (IntKind.wrap IntKind.i64 (k + (1 : Int))))))))))
 (VC.ret (some (RR.c (Rc.d (D.bool true)))))) := by kernel_rfl
theorem eq_dropG {α : Type} [Row α] {a b : List α} {k : Int} (hl : a.length = b.length) (h0 : 0 ≤ k) (h1 : k < a.length) : (a.drop k.toNat = b.drop k.toNat) ↔ rd a k = rd b k ∧ a.drop (k + 1).toNat = b.drop (k + 1).toNat := by
  rw [drop_rd a k h0 h1, drop_rd b k h0 (by omega)]
  simp
theorem l_rSameI0 (a b : List Int) (res : Bool) (hl : a.length = b.length) (hb : a.length ≤ 1000000000) : ∀ i : Int, (fun (i : Int) => 0 ≤ i ∧ i ≤ a.length ∧ decide (a.drop i.toNat = b.drop i.toNat) = res) i → (a_rSameI.at_ 0 ((fun (i : Int) => F_rSameI a b i) i)).holds s_rSameI.cx a_rSameI.rs (fun r => r.le (rb res)) := by
  refine loop_rule (a := a_rSameI) (j := 0) (m := 400) s_rSameI_sound (fun (i : Int) => F_rSameI a b i) (fun (i : Int) => 0 ≤ i ∧ i ≤ a.length ∧ decide (a.drop i.toNat = b.drop i.toNat) = res) (fun (i : Int) => ((a.length : Int) - i).toNat) ?_
  rintro k h_inv ih
  try dsimp only at h_inv
  show VC.holds _ _ _ (a_rSameI.round s_rSameI 400 0 (F_rSameI a b k))
  rw [t_rSameI0]
  try simp only [asRows_sl, asInt_int, asBool_bool, asStr_str, listOf_rowsOn, List.drop_zero, Prg.eta, Sta.eta, rowsOn_length, getD_drop, Nat.reduceAdd, rd_int, rd_PMem_name, rd_PMem_secret, rd_PMem_n, rd_PLabel_name, rd_PLabel_at_, rd_Ins_kind, rd_Ins_op, rd_Ins_d, rd_Ins_aR, rd_Ins_aN, rd_Ins_bR, rd_Ins_bN, rd_Ins_name, rd_Ins_target, rd_Ent_pc, rd_Ent_val, rd_Ent_addr, rd_Ent_fro, rd_Ent_next, rd_Ent_done, rd_Ent_known, rd_Ent_fault, rd_Place_reg, rd_Place_n, rd_Place_secret, rd_Obs_kind, rd_Obs_at_, rd_Dir_kind, rd_Dir_n]
  obtain ⟨h0, h1, h2⟩ := h_inv
  have w1 : IntKind.wrap .i64 (k + 1) = k + 1 := wrap_small _ (by omega) (by omega)
  rw [w1]
  repeat' first
    | refine br_not ?_
    | refine br_dec (fun _ => ?_) (fun _ => ?_)
    | refine br_beq (fun _ => ?_) (fun _ => ?_)
    | refine br_bne (fun _ => ?_) (fun _ => ?_)
    | refine br_holds (fun _ => ?_) (fun _ => ?_)
    | refine ⟨PreOk.mk ?_ rfl, ?_⟩
    | refine ⟨idx_ok _ _ _ rfl (by omega) (by omega), ?_⟩
    | refine ⟨okSh_ok _ _ _ (fun _ => rfl) (by omega) (by omega), ?_⟩
    | refine ⟨okSh_okD _ _ _ _ (fun _ => rfl) (by omega) (by omega), ?_⟩
    | refine ⟨aload_ok _ _ rfl (fun _ => rfl) (by omega) (by omega), ?_⟩
    | refine ⟨aload_okD _ _ _ rfl (fun _ => rfl) (by omega) (by omega), ?_⟩
    | refine ⟨astore_ok (by assumption) rfl (by omega) (by omega) (by decide), ?_⟩
    | refine ⟨app_ok (by assumption) rfl rfl (by simp only [List.length_cons, List.length_nil]; omega), ?_⟩
    | refine need_holds ?_ fun _ => ?_
    | refine all_holds fun y hy => ?_
    | refine ret_le ?_
    | refine ih _ ?_ ?_
  all_goals try omega
  · refine ⟨by omega, by omega, ?_⟩
    rw [← h2]
    exact decide_eq_decide.2 ⟨fun h => (eq_dropG hl h0 ‹_›).2 ⟨‹_›, h⟩, fun h => ((eq_dropG hl h0 ‹_›).1 h).2⟩
  · refine rb_le ?_
    rw [← h2]
    exact (decide_eq_false fun h => absurd ((eq_dropG hl h0 ‹_›).1 h).1 ‹_›).symm
  · refine rb_le ?_
    have hk : k.toNat = a.length := by omega
    rw [← h2, hk, List.drop_length, hl, List.drop_length]
    rfl
theorem c_rSameI_good : c_rSameI.fe.Good Try.prog := by
  refine FT.good c_rSameI ⟨Try.f99, by kernel_rfl, by decide +kernel, by kernel_rfl⟩ (fun ⟨a, b⟩ => by first | rfl | simp [c_rSameI, rrRef, rss, rnewI, rnewE, rstab, rplaces, ri, rb, rib, rnum, rby, Sta.fresh]) fun ⟨a, b⟩ hp => ?_
  refine acalls_le s_rSameI_sound (fn := Try.f99) (a := a_rSameI) (nargs := 2) (tbl := [(4, [0, 1, 5])]) (by kernel_rfl) (by kernel_rfl) rfl (m := 400) ?_
  show VC.holds _ _ _ (a_rSameI.start s_rSameI 400 [al a, al b])
  rw [t_rSameI]
  try simp only [asRows_sl, asInt_int, asBool_bool, asStr_str, listOf_rowsOn, List.drop_zero, Prg.eta, Sta.eta, rowsOn_length, getD_drop, Nat.reduceAdd, rd_int, rd_PMem_name, rd_PMem_secret, rd_PMem_n, rd_PLabel_name, rd_PLabel_at_, rd_Ins_kind, rd_Ins_op, rd_Ins_d, rd_Ins_aR, rd_Ins_aN, rd_Ins_bR, rd_Ins_bN, rd_Ins_name, rd_Ins_target, rd_Ent_pc, rd_Ent_val, rd_Ent_addr, rd_Ent_fro, rd_Ent_next, rd_Ent_done, rd_Ent_known, rd_Ent_fault, rd_Place_reg, rd_Place_n, rd_Place_secret, rd_Obs_kind, rd_Obs_at_, rd_Dir_kind, rd_Dir_n]
  try simp only [c_rSameI] at hp
  repeat' first
    | refine br_not ?_
    | refine br_dec (fun _ => ?_) (fun _ => ?_)
    | refine br_beq (fun _ => ?_) (fun _ => ?_)
    | refine br_bne (fun _ => ?_) (fun _ => ?_)
    | refine br_holds (fun _ => ?_) (fun _ => ?_)
    | refine ⟨PreOk.mk ?_ rfl, ?_⟩
    | refine ⟨idx_ok _ _ _ rfl (by omega) (by omega), ?_⟩
    | refine ⟨okSh_ok _ _ _ (fun _ => rfl) (by omega) (by omega), ?_⟩
    | refine ⟨okSh_okD _ _ _ _ (fun _ => rfl) (by omega) (by omega), ?_⟩
    | refine ⟨aload_ok _ _ rfl (fun _ => rfl) (by omega) (by omega), ?_⟩
    | refine ⟨aload_okD _ _ _ rfl (fun _ => rfl) (by omega) (by omega), ?_⟩
    | refine ⟨astore_ok (by assumption) rfl (by omega) (by omega) (by decide), ?_⟩
    | refine ⟨app_ok (by assumption) rfl rfl (by simp only [List.length_cons, List.length_nil]; omega), ?_⟩
    | refine need_holds ?_ fun _ => ?_
    | refine all_holds fun y hy => ?_
    | refine ret_le ?_
  · have e : c_rSameI.ans (a, b) = rb (decide (a = b)) := rfl
    rw [e]
    exact l_rSameI0 a b _ (by omega) hp 0 ⟨by omega, by omega, by simp⟩
  · exact rb_le (decide_eq_false fun h => by have h : a = b := h; subst h; omega).symm
end Go.Proofs.Ytclabjihjopclaa.Ax
end

section
/- States in bytes, by the document: auguryref7.Code, Same; what numbers tell of a state. -/
namespace Go.Proofs.Ytclabjihjopclaa.Ax
open Go.RowKit
set_option linter.unusedVariables false
set_option linter.unusedSimpArgs false
theorem numsS_inj {a b : Sta} (h : numsS a = numsS b) : a = b := by
  have hl : a.mem.length = b.mem.length := by
    have : (a.mem.length : Int) = b.mem.length := by
      have := congrArg (fun l : List Int => l.getD 4 0) h
      simpa [numsS] using this
    exact_mod_cast this
  unfold numsS at h
  simp only [List.cons_append, List.nil_append, List.cons.injEq, List.append_assoc] at h
  obtain ⟨h0, h1, h2, h3, _, h4⟩ := h
  obtain ⟨h5, h6⟩ := List.append_inj h4 hl
  simp only [List.cons.injEq] at h6
  obtain ⟨h7, h8⟩ := h6
  obtain ⟨h9, h10⟩ := List.append_inj h8 (by omega)
  simp only [List.cons.injEq, and_true] at h10
  exact Sta.eq_iff.2 ⟨h0, h1, h2, h3, h5, h9, h10⟩
noncomputable def v_rInts : Sta × Unit → List Int := fun x => numsS x.1
noncomputable def sh_rInts : List Int → RR := fun l => .c (.new 1 (rowsOn l))
theorem e_rInts (x : Sta × Unit) : sh_rInts (v_rInts x) = c_rInts.ans x := rfl
def c_rCode : FT (Sta × Unit) := ⟨56, fun s => [as_ s.1], rdS, fun s => SmallS s.1, fun s => rby (codeS s.1), false, fun s => by simp [as_, rdS]⟩
noncomputable def a_rCode : FnA := (fnA Try.prog Try.f56 1 []).getD ⟨0, .skip, [], []⟩
noncomputable def s_rCode : Sp := spT [c_rInts.gfe v_rInts sh_rInts e_rInts, c_rPut.fe]
theorem s_rCode_sound : s_rCode.sound Try.prog := spT_sound fun e he => by
  simp only [List.mem_cons, List.not_mem_nil, or_false] at he
  rcases he with rfl | rfl
  · exact FT.gfe_good c_rInts_good
  · exact c_rPut_good
set_option maxRecDepth 100000 in
theorem t_rCode (s : Sta) : a_rCode.start s_rCode 400 [as_ s] =
(VC.need (PreOk c_rInts (Sta.of (Sta.cells s), ()) [A.agg (Sta.cells s)])
(VC.all (v_rInts (Sta.of (Sta.cells s), ())) fun (y1 : List Int) =>
(VC.need (PreOk c_rPut (y1, ()) [A.c (D.sl (rowsOn y1))])
(VC.ret (some (RR.c (Rc.new (1 : Nat) (rowsOn (bytesS (listOf Int (rowsOn y1))))))))))) := by kernel_rfl
theorem c_rCode_good : c_rCode.fe.Good Try.prog := by
  refine FT.good c_rCode ⟨Try.f56, by kernel_rfl, by decide +kernel, by kernel_rfl⟩ (fun ⟨s, u⟩ => by first | rfl | simp [c_rCode, rrRef, rnum, rby, rss, rnewI, rnewE, rstab, rplaces, ri, rb, rib, Sta.fresh]) fun ⟨s, u⟩ hp => ?_
  refine acalls_le s_rCode_sound (fn := Try.f56) (a := a_rCode) (nargs := 1) (tbl := []) (by kernel_rfl) (by kernel_rfl) rfl (m := 400) ?_
  show VC.holds _ _ _ (a_rCode.start s_rCode 400 [as_ s])
  rw [t_rCode]
  try simp only [asRows_sl, asInt_int, asBool_bool, asStr_str, listOf_rowsOn, List.drop_zero, Prg.eta, Sta.eta, rowsOn_length, getD_drop, Nat.reduceAdd, rd_int, rd_PMem_name, rd_PMem_secret, rd_PMem_n, rd_PLabel_name, rd_PLabel_at_, rd_Ins_kind, rd_Ins_op, rd_Ins_d, rd_Ins_aR, rd_Ins_aN, rd_Ins_bR, rd_Ins_bN, rd_Ins_name, rd_Ins_target, rd_Ent_pc, rd_Ent_val, rd_Ent_addr, rd_Ent_fro, rd_Ent_next, rd_Ent_done, rd_Ent_known, rd_Ent_fault, rd_Place_reg, rd_Place_n, rd_Place_secret, rd_Obs_kind, rd_Obs_at_, rd_Dir_kind, rd_Dir_n]
  try simp only [c_rCode] at hp
  obtain ⟨h1, h2⟩ := hp
  have hl := nums_len s
  simp only [Sta.of_cells]
  repeat' first
    | refine br_not ?_
    | refine br_dec (fun _ => ?_) (fun _ => ?_)
    | refine br_beq (fun _ => ?_) (fun _ => ?_)
    | refine br_bne (fun _ => ?_) (fun _ => ?_)
    | refine br_holds (fun _ => ?_) (fun _ => ?_)
    | refine ⟨PreOk.mk ?_ rfl, ?_⟩
    | refine ⟨idx_ok _ _ _ rfl (by omega) (by omega), ?_⟩
    | refine ⟨okSh_ok _ _ _ (fun _ => rfl) (by omega) (by omega), ?_⟩
    | refine ⟨okSh_okD _ _ _ _ (fun _ => rfl) (by omega) (by omega), ?_⟩
    | refine ⟨aload_ok _ _ rfl (fun _ => rfl) (by omega) (by omega), ?_⟩
    | refine ⟨aload_okD _ _ _ rfl (fun _ => rfl) (by omega) (by omega), ?_⟩
    | refine ⟨astore_ok (by assumption) rfl (by omega) (by omega) (by decide), ?_⟩
    | refine ⟨app_ok (by assumption) rfl rfl (by simp only [List.length_cons, List.length_nil]; omega), ?_⟩
    | refine need_holds ?_ fun _ => ?_
    | refine all_holds fun y hy => ?_
    | refine ret_le ?_
  · exact ⟨h1, h2⟩
  · subst y
    show (numsS s).length ≤ 1000000000
    omega
  · subst y
    exact RR.le_refl _
def c_rSame : FT (Sta × Sta) := ⟨53, fun x => [as_ x.1, as_ x.2], rdSS, fun x => SmallS x.1 ∧ SmallS x.2, fun x => rb (decide (x.1 = x.2)), false, fun s => by simp [as_, rdSS]⟩
noncomputable def a_rSame : FnA := (fnA Try.prog Try.f53 2 []).getD ⟨0, .skip, [], []⟩
noncomputable def s_rSame : Sp := spT [c_rInts.gfe v_rInts sh_rInts e_rInts, c_rSameI.fe]
theorem s_rSame_sound : s_rSame.sound Try.prog := spT_sound fun e he => by
  simp only [List.mem_cons, List.not_mem_nil, or_false] at he
  rcases he with rfl | rfl
  · exact FT.gfe_good c_rInts_good
  · exact c_rSameI_good
set_option maxRecDepth 100000 in
theorem t_rSame (s t : Sta) : a_rSame.start s_rSame 400 [as_ s, as_ t] =
(VC.need (PreOk c_rInts (Sta.of (Sta.cells s), ()) [A.agg (Sta.cells s)])
(VC.all (v_rInts (Sta.of (Sta.cells s), ())) fun (y2 : List Int) =>
(VC.need (PreOk c_rInts (Sta.of (Sta.cells t), ()) [A.agg (Sta.cells t)])
(VC.all (v_rInts (Sta.of (Sta.cells t), ())) fun (y3 : List Int) =>
(VC.need (PreOk c_rSameI (y2, y3) [A.c (D.sl (rowsOn y2)), A.c (D.sl (rowsOn y3))])
(VC.ret (some (RR.c (Rc.d (D.bool (decide (listOf Int (rowsOn y2) = listOf Int (rowsOn y3))))))))))))) := by kernel_rfl
theorem c_rSame_good : c_rSame.fe.Good Try.prog := by
  refine FT.good c_rSame ⟨Try.f53, by kernel_rfl, by decide +kernel, by kernel_rfl⟩ (fun ⟨s, t⟩ => by first | rfl | simp [c_rSame, rrRef, rnum, rby, rss, rnewI, rnewE, rstab, rplaces, ri, rb, rib, Sta.fresh]) fun ⟨s, t⟩ hp => ?_
  refine acalls_le s_rSame_sound (fn := Try.f53) (a := a_rSame) (nargs := 2) (tbl := []) (by kernel_rfl) (by kernel_rfl) rfl (m := 400) ?_
  show VC.holds _ _ _ (a_rSame.start s_rSame 400 [as_ s, as_ t])
  rw [t_rSame]
  try simp only [asRows_sl, asInt_int, asBool_bool, asStr_str, listOf_rowsOn, List.drop_zero, Prg.eta, Sta.eta, rowsOn_length, getD_drop, Nat.reduceAdd, rd_int, rd_PMem_name, rd_PMem_secret, rd_PMem_n, rd_PLabel_name, rd_PLabel_at_, rd_Ins_kind, rd_Ins_op, rd_Ins_d, rd_Ins_aR, rd_Ins_aN, rd_Ins_bR, rd_Ins_bN, rd_Ins_name, rd_Ins_target, rd_Ent_pc, rd_Ent_val, rd_Ent_addr, rd_Ent_fro, rd_Ent_next, rd_Ent_done, rd_Ent_known, rd_Ent_fault, rd_Place_reg, rd_Place_n, rd_Place_secret, rd_Obs_kind, rd_Obs_at_, rd_Dir_kind, rd_Dir_n]
  try simp only [c_rSame] at hp
  obtain ⟨⟨h1, h2⟩, ⟨h3, h4⟩⟩ := hp
  have hl := nums_len s
  simp only [Sta.of_cells]
  repeat' first
    | refine br_not ?_
    | refine br_dec (fun _ => ?_) (fun _ => ?_)
    | refine br_beq (fun _ => ?_) (fun _ => ?_)
    | refine br_bne (fun _ => ?_) (fun _ => ?_)
    | refine br_holds (fun _ => ?_) (fun _ => ?_)
    | refine ⟨PreOk.mk ?_ rfl, ?_⟩
    | refine ⟨idx_ok _ _ _ rfl (by omega) (by omega), ?_⟩
    | refine ⟨okSh_ok _ _ _ (fun _ => rfl) (by omega) (by omega), ?_⟩
    | refine ⟨okSh_okD _ _ _ _ (fun _ => rfl) (by omega) (by omega), ?_⟩
    | refine ⟨aload_ok _ _ rfl (fun _ => rfl) (by omega) (by omega), ?_⟩
    | refine ⟨aload_okD _ _ _ rfl (fun _ => rfl) (by omega) (by omega), ?_⟩
    | refine ⟨astore_ok (by assumption) rfl (by omega) (by omega) (by decide), ?_⟩
    | refine ⟨app_ok (by assumption) rfl rfl (by simp only [List.length_cons, List.length_nil]; omega), ?_⟩
    | refine need_holds ?_ fun _ => ?_
    | refine all_holds fun y hy => ?_
    | refine ret_le ?_
  · exact ⟨h1, h2⟩
  · exact ⟨h3, h4⟩
  · subst_vars
    show (numsS s).length ≤ 1000000000
    omega
  · subst_vars
    exact rb_le (decide_eq_decide.2 ⟨numsS_inj, fun h => by have h : s = t := h; subst h; rfl⟩)
end Go.Proofs.Ytclabjihjopclaa.Ax
end

section
/- Places and states that look alike, plainly. -/
namespace Go.Proofs.Ytclabjihjopclaa.Ax
open Go.RowKit
set_option linter.unusedVariables false
set_option linter.unusedSimpArgs false
theorem rd_left {α : Type} [Row α] (l m : List α) (i : Int) (h0 : 0 ≤ i) (h : i < l.length) : rd (l ++ m) i = rd l i := by
  unfold rd
  rw [List.getD_eq_getElem?_getD, List.getD_eq_getElem?_getD, List.getElem?_append_left (by omega)]
theorem rd_right {α : Type} [Row α] (l m : List α) (i : Int) (h : (l.length : Int) ≤ i) : rd (l ++ m) i = rd m (i - l.length) := by
  unfold rd
  rw [List.getD_eq_getElem?_getD, List.getD_eq_getElem?_getD, List.getElem?_append_right (by omega)]
  congr 2
  omega
theorem rd_memPlace {n at_ i : Int} (s : Bool) (h0 : 0 ≤ i) (h : i < n) : rd (memPlace n at_ s) i = ⟨false, at_ + i, s⟩ := by
  unfold rd memPlace
  rw [List.getD_eq_getElem?_getD, List.getElem?_map, List.getElem?_range (by omega)]
  simp only [Option.map_some, Option.getD_some, Place.mk.injEq, and_true, true_and]
  omega
theorem memPlace_length (n at_ : Int) (s : Bool) (h : 0 ≤ n) : ((memPlace n at_ s).length : Int) = n := by
  unfold memPlace
  simp only [List.length_map, List.length_range]
  omega
/-- Whether a cell is secret. -/
def secM : List PMem → Int → Bool
  | [], _ => false
  | m :: ms, j => if j < m.n then m.secret else secM ms (j - m.n)
theorem mem_memPlace {n at_ : Int} {s : Bool} {x : Place} (h : 0 ≤ n) : x ∈ memPlace n at_ s ↔ x.reg = false ∧ at_ ≤ x.n ∧ x.n < at_ + n ∧ x.secret = s := by
  unfold memPlace
  simp only [List.mem_map, List.mem_range]
  constructor
  · rintro ⟨k, hk, rfl⟩
    exact ⟨rfl, by dsimp only; omega, by dsimp only; omega, rfl⟩
  · rintro ⟨h1, h2, h3, h4⟩
    refine ⟨(x.n - at_).toNat, by omega, ?_⟩
    obtain ⟨r, n', s'⟩ := x
    simp only at h1 h2 h3 h4
    simp only [Place.mk.injEq]
    exact ⟨h1.symm, by omega, h4.symm⟩
theorem mem_memPlaces : ∀ (ms : List PMem) (at_ : Int), (∀ m ∈ ms, 0 ≤ m.n ∧ m.n ≤ 16) → ∀ x : Place, x ∈ memPlaces ms at_ ↔ x.reg = false ∧ at_ ≤ x.n ∧ x.n < at_ + cellsS ms ∧ x.secret = secM ms (x.n - at_)
  | [], at_, _, x => by
    simp only [memPlaces, cellsS, List.not_mem_nil, false_iff]
    intro h; omega
  | m :: ms, at_, h, x => by
    have h0 := h m (by simp)
    have hc := cellsS_nonneg (ms := ms) fun y hy => h y (by simp [hy])
    rw [memPlaces, List.mem_append, mem_memPlace h0.1, mem_memPlaces ms (at_ + m.n) (fun y hy => h y (by simp [hy])) x]
    simp only [cellsS, secM]
    have e : x.n - (at_ + m.n) = x.n - at_ - m.n := by omega
    rw [e]
    by_cases hx : x.n - at_ < m.n
    · rw [if_pos hx]
      constructor
      · rintro (⟨h1, h2, h3, h4⟩ | ⟨h1, h2, h3, h4⟩)
        · exact ⟨h1, h2, by omega, h4⟩
        · omega
      · rintro ⟨h1, h2, h3, h4⟩
        exact .inl ⟨h1, h2, by omega, h4⟩
    · rw [if_neg hx]
      constructor
      · rintro (⟨h1, h2, h3, h4⟩ | ⟨h1, h2, h3, h4⟩)
        · omega
        · exact ⟨h1, by omega, by omega, h4⟩
      · rintro ⟨h1, h2, h3, h4⟩
        exact .inr ⟨h1, by omega, by omega, h4⟩
theorem mem_regPlace {n r : Int} {x : Place} : x ∈ regPlace n r ↔ n ≠ 0 ∧ x.reg = true ∧ x.n = r ∧ x.secret = decide (n = 2) := by
  obtain ⟨a, b, c⟩ := x
  unfold regPlace
  by_cases h : n = 0
  · simp [h]
  · simp [h]
theorem Prg.reg_cases (p : Prg) {r : Int} (h : 0 ≤ r ∧ r < 4) : (r = 0 ∧ p.reg r = p.r0) ∨ (r = 1 ∧ p.reg r = p.r1) ∨ (r = 2 ∧ p.reg r = p.r2) ∨ (r = 3 ∧ p.reg r = p.r3) := by
  have : r = 0 ∨ r = 1 ∨ r = 2 ∨ r = 3 := by omega
  rcases this with rfl | rfl | rfl | rfl <;> simp [Prg.reg]
theorem mem_regPlaces (p : Prg) (x : Place) : x ∈ regPlaces p ↔ x.reg = true ∧ 0 ≤ x.n ∧ x.n < 4 ∧ p.reg x.n ≠ 0 ∧ x.secret = decide (p.reg x.n = 2) := by
  unfold regPlaces
  simp only [List.mem_append, mem_regPlace]
  constructor
  · rintro (((⟨h1, h2, h3, h4⟩ | ⟨h1, h2, h3, h4⟩) | ⟨h1, h2, h3, h4⟩) | ⟨h1, h2, h3, h4⟩)
    all_goals (rw [h3]; refine ⟨h2, by omega, by omega, ?_⟩; simpa [Prg.reg] using ⟨h1, h4⟩)
  · rintro ⟨h1, h2, h3, h4, h5⟩
    rcases p.reg_cases ⟨h2, h3⟩ with ⟨e, h⟩ | ⟨e, h⟩ | ⟨e, h⟩ | ⟨e, h⟩ <;> rw [h] at h4 h5
    · exact .inl (.inl (.inl ⟨h4, h1, e, h5⟩))
    · exact .inl (.inl (.inr ⟨h4, h1, e, h5⟩))
    · exact .inl (.inr ⟨h4, h1, e, h5⟩)
    · exact .inr ⟨h4, h1, e, h5⟩
theorem mem_places (p : Prg) (hm : Mems p.mems) (x : Place) : x ∈ placesS p ↔ (x.reg = true ∧ 0 ≤ x.n ∧ x.n < 4 ∧ p.reg x.n ≠ 0 ∧ x.secret = decide (p.reg x.n = 2)) ∨ (x.reg = false ∧ 0 ≤ x.n ∧ x.n < cellsS p.mems ∧ x.secret = secM p.mems x.n) := by
  unfold placesS
  rw [List.mem_append, mem_regPlaces, mem_memPlaces p.mems 0 hm.n]
  simp
/-- No place comes twice. -/
def PApart (x y : Place) : Prop := ¬ (x.reg = y.reg ∧ x.n = y.n)
theorem memPlace_apart (n at_ : Int) (s : Bool) : (memPlace n at_ s).Pairwise PApart := by
  unfold memPlace
  rw [List.pairwise_map]
  refine List.Pairwise.imp ?_ List.pairwise_lt_range
  rintro a b h ⟨_, h2⟩
  simp only at h2
  omega
theorem memPlaces_apart : ∀ (ms : List PMem) (at_ : Int), (∀ m ∈ ms, 0 ≤ m.n ∧ m.n ≤ 16) → (memPlaces ms at_).Pairwise PApart
  | [], _, _ => List.Pairwise.nil
  | m :: ms, at_, h => by
    rw [memPlaces, List.pairwise_append]
    refine ⟨memPlace_apart .., memPlaces_apart ms _ fun y hy => h y (by simp [hy]), ?_⟩
    intro x hx y hy ⟨_, h2⟩
    rw [mem_memPlace (h m (by simp)).1] at hx
    rw [mem_memPlaces ms _ fun y hy => h y (by simp [hy])] at hy
    omega
theorem regPlaces_apart (p : Prg) : (regPlaces p).Pairwise PApart := by
  have h1 : ∀ n r, (regPlace n r).Pairwise PApart := by
    intro n r; unfold regPlace; split <;> simp
  have h2 : ∀ n r m q, r ≠ q → ∀ x ∈ regPlace n r, ∀ y ∈ regPlace m q, PApart x y := by
    intro n r m q hne x hx y hy ⟨_, h⟩
    rw [mem_regPlace] at hx hy
    exact hne (by rw [← hx.2.2.1, ← hy.2.2.1, h])
  unfold regPlaces
  simp only [List.pairwise_append, List.mem_append]
  refine ⟨⟨⟨h1 _ _, h1 _ _, h2 _ _ _ _ (by decide)⟩, h1 _ _, ?_⟩, h1 _ _, ?_⟩
  · rintro x (hx | hx) y hy
    · exact h2 _ _ _ _ (by decide) x hx y hy
    · exact h2 _ _ _ _ (by decide) x hx y hy
  · rintro x ((hx | hx) | hx) y hy
    · exact h2 _ _ _ _ (by decide) x hx y hy
    · exact h2 _ _ _ _ (by decide) x hx y hy
    · exact h2 _ _ _ _ (by decide) x hx y hy
theorem places_apart (p : Prg) (hm : Mems p.mems) : (placesS p).Pairwise PApart := by
  unfold placesS
  rw [List.pairwise_append]
  refine ⟨regPlaces_apart p, memPlaces_apart _ _ hm.n, ?_⟩
  intro x hx y hy ⟨h, _⟩
  rw [mem_regPlaces] at hx
  rw [mem_memPlaces p.mems 0 hm.n] at hy
  rw [hx.1, hy.1] at h; cases h

/-! What a place holds. -/
def holdP (s : Sta) (x : Place) : Int := if x.reg then s.reg x.n else rd s.mem x.n
theorem reg_setReg (s : Sta) {r q : Int} (n : Int) (hr : 0 ≤ r ∧ r < 4) (hq : 0 ≤ q ∧ q < 4) : (s.setReg r n).reg q = if q = r then n else s.reg q := by
  have h1 : r = 0 ∨ r = 1 ∨ r = 2 ∨ r = 3 := by omega
  have h2 : q = 0 ∨ q = 1 ∨ q = 2 ∨ q = 3 := by omega
  rcases h1 with rfl | rfl | rfl | rfl <;> rcases h2 with rfl | rfl | rfl | rfl <;> rfl
theorem setReg_mem (s : Sta) (r n : Int) : (s.setReg r n).mem = s.mem ∧ (s.setReg r n).stack = s.stack ∧ (s.setReg r n).pc = s.pc := by
  unfold Sta.setReg
  repeat' split
  all_goals exact ⟨rfl, rfl, rfl⟩
theorem rd_set {l : List Int} {i j : Int} (v : Int) (hi : 0 ≤ i ∧ i < l.length) (hj : 0 ≤ j) : rd (l.set i.toNat v) j = if j = i then v else rd l j := by
  unfold rd
  rw [List.getD_eq_getElem?_getD, List.getD_eq_getElem?_getD, List.getElem?_set]
  by_cases h : j = i
  · subst h; rw [if_pos rfl, if_pos (by omega), if_pos rfl]; rfl
  · rw [if_neg (by omega), if_neg h]
theorem Sta.ext_iff' {a b : Sta} {c : Int} (ha : a.mem.length = c) (hb : b.mem.length = c) : a = b ↔ a.stack = b.stack ∧ a.pc = b.pc ∧ (∀ r, 0 ≤ r ∧ r < 4 → a.reg r = b.reg r) ∧ ∀ j, 0 ≤ j ∧ j < c → rd a.mem j = rd b.mem j := by
  constructor
  · rintro rfl; exact ⟨rfl, rfl, fun _ _ => rfl, fun _ _ => rfl⟩
  · rintro ⟨h1, h2, h3, h4⟩
    rw [Sta.eq_iff]
    refine ⟨h3 0 (by omega), h3 1 (by omega), h3 2 (by omega), h3 3 (by omega), ?_, h1, h2⟩
    apply List.ext_getElem (by omega)
    intro i g1 g2
    have := h4 i (by omega)
    rwa [rd_lt _ _ g1, rd_lt _ _ g2] at this
/-- The secrets of one state put into another one. -/
theorem seen_fold (t : Sta) (c : Int) : ∀ (q : List Place) (s : Sta), PlacesOk q c → s.mem.length = c →
    (q.foldl (seenS t) s).mem.length = c ∧ (q.foldl (seenS t) s).stack = s.stack ∧ (q.foldl (seenS t) s).pc = s.pc ∧
    (∀ r, 0 ≤ r ∧ r < 4 → (q.foldl (seenS t) s).reg r = if ⟨true, r, true⟩ ∈ q then t.reg r else s.reg r) ∧
    (∀ j, 0 ≤ j ∧ j < c → rd (q.foldl (seenS t) s).mem j = if ⟨false, j, true⟩ ∈ q then rd t.mem j else rd s.mem j)
  | [], s, _, hc => ⟨hc, rfl, rfl, fun _ _ => rfl, fun _ _ => rfl⟩
  | x :: q, s, hq, hc => by
    have hx := hq x (by simp)
    have hq' : PlacesOk q c := fun y hy => hq y (by simp [hy])
    obtain ⟨xr, xn, xs⟩ := x
    cases xs with
    | false =>
      have e : seenS t s ⟨xr, xn, false⟩ = s := rfl
      rw [List.foldl_cons, e]
      obtain ⟨h1, h2, h3, h4, h5⟩ := seen_fold t c q s hq' hc
      refine ⟨h1, h2, h3, fun r hr => ?_, fun j hj => ?_⟩
      · rw [h4 r hr]; simp
      · rw [h5 j hj]; simp
    | true =>
      cases xr with
      | true =>
        have e : seenS t s ⟨true, xn, true⟩ = s.setReg xn (t.reg xn) := rfl
        have hr0 := hx.1 rfl
        rw [List.foldl_cons, e]
        obtain ⟨m1, m2, m3⟩ := setReg_mem s xn (t.reg xn)
        obtain ⟨h1, h2, h3, h4, h5⟩ := seen_fold t c q (s.setReg xn (t.reg xn)) hq' (by rw [m1]; exact hc)
        refine ⟨h1, h2.trans m2, h3.trans m3, fun r hr => ?_, fun j hj => ?_⟩
        · rw [h4 r hr, reg_setReg s _ hr0 hr]
          by_cases e1 : r = xn
          · subst e1; simp
          · simp [e1]
        · rw [h5 j hj, m1]; simp
      | false =>
        have e : seenS t s ⟨false, xn, true⟩ = { s with mem := s.mem.set xn.toNat (rd t.mem xn) } := rfl
        have hr0 := hx.2 rfl
        rw [List.foldl_cons, e]
        obtain ⟨h1, h2, h3, h4, h5⟩ := seen_fold t c q { s with mem := s.mem.set xn.toNat (rd t.mem xn) } hq' (by simpa using hc)
        refine ⟨h1, h2, h3, fun r hr => ?_, fun j hj => ?_⟩
        · rw [h4 r hr]; simp [Sta.reg]
        · rw [h5 j hj]
          simp only
          rw [rd_set _ ⟨hr0.1, by omega⟩ hj.1]
          by_cases e1 : j = xn
          · subst e1; simp
          · simp [e1]
/-- Two states look alike. -/
theorem lowS_iff {p : Prg} {s t : Sta} (hm : Mems p.mems) (hs : s.mem.length = cellsS p.mems) (ht : t.mem.length = cellsS p.mems) : lowS p s t = true ↔ s.stack = t.stack ∧ s.pc = t.pc ∧ (∀ r, 0 ≤ r ∧ r < 4 → p.reg r ≠ 2 → s.reg r = t.reg r) ∧ ∀ j, 0 ≤ j ∧ j < cellsS p.mems → secM p.mems j = false → rd s.mem j = rd t.mem j := by
  unfold lowS
  rw [if_pos ⟨hs, ht⟩, decide_eq_true_iff]
  obtain ⟨h1, h2, h3, h4, h5⟩ := seen_fold t (cellsS p.mems) (placesS p) s (places_ok p hm) hs
  rw [Sta.ext_iff' h1 ht, h2, h3]
  have k1 : ∀ r, 0 ≤ r ∧ r < 4 → ((⟨true, r, true⟩ : Place) ∈ placesS p ↔ p.reg r = 2) := by
    intro r hr
    rw [mem_places p hm]
    simp only [true_and, Bool.true_eq_false, false_and, or_false]
    constructor
    · rintro ⟨_, _, _, h⟩; simpa using h.symm
    · intro h; exact ⟨hr.1, hr.2, by omega, by simp [h]⟩
  have k2 : ∀ j, 0 ≤ j ∧ j < cellsS p.mems → ((⟨false, j, true⟩ : Place) ∈ placesS p ↔ secM p.mems j = true) := by
    intro r hr
    rw [mem_places p hm]
    simp only [Bool.false_eq_true, false_and, false_or, true_and]
    constructor
    · rintro ⟨_, _, h⟩; exact h.symm
    · intro h; exact ⟨hr.1, hr.2, h.symm⟩
  refine and_congr_right fun _ => and_congr_right fun _ => and_congr ⟨fun h r hr hn => ?_, fun h r hr => ?_⟩ ⟨fun h j hj hn => ?_, fun h j hj => ?_⟩
  · have := h r hr
    rw [h4 r hr, if_neg (by rw [k1 r hr]; exact hn)] at this
    exact this
  · rw [h4 r hr]
    split
    · rfl
    · rename_i hn; rw [k1 r hr] at hn; exact h r hr hn
  · have := h j hj
    rw [h5 j hj, if_neg (by rw [k2 j hj]; simp [hn])] at this
    exact this
  · rw [h5 j hj]
    split
    · rfl
    · rename_i hn; rw [k2 j hj] at hn; exact h j hj (by simpa using hn)
/-- In words of places. -/
theorem lowS_places {p : Prg} {s t : Sta} (hm : Mems p.mems) (hs : s.mem.length = cellsS p.mems) (ht : t.mem.length = cellsS p.mems)
    (hz : ∀ r, 0 ≤ r ∧ r < 4 → p.reg r = 0 → s.reg r = t.reg r) : lowS p s t = true ↔ s.stack = t.stack ∧ s.pc = t.pc ∧ ∀ x ∈ placesS p, x.secret = false → holdP s x = holdP t x := by
  rw [lowS_iff hm hs ht]
  refine and_congr_right fun _ => and_congr_right fun _ => ⟨fun ⟨h1, h2⟩ x hx hn => ?_, fun h => ⟨fun r hr hn => ?_, fun j hj hn => ?_⟩⟩
  · rw [mem_places p hm] at hx
    unfold holdP
    rcases hx with ⟨g1, g2, g3, g4, g5⟩ | ⟨g1, g2, g3, g4⟩
    · rw [g1, if_pos rfl, if_pos rfl]; exact h1 _ ⟨g2, g3⟩ (by intro e; rw [hn] at g5; simp [e] at g5)
    · rw [g1, if_neg (by decide), if_neg (by decide)]; exact h2 _ ⟨g2, g3⟩ (by rw [← g4]; exact hn)
  · by_cases e : p.reg r = 0
    · exact hz r hr e
    · exact h ⟨true, r, false⟩ ((mem_places p hm _).2 (.inl ⟨rfl, hr.1, hr.2, e, by simp [hn]⟩)) rfl
  · exact h ⟨false, j, false⟩ ((mem_places p hm _).2 (.inr ⟨rfl, hj.1, hj.2, hn.symm⟩)) rfl

/-! A state that was begun. -/
theorem fill_hold (w : Int) (c : Int) : ∀ (q : List Place) (l : List Int) (s : Sta), PlacesOk q c → q.Pairwise PApart → l.length = q.length → s.mem.length = c →
    (fillS w q l s).mem.length = c ∧ (fillS w q l s).stack = s.stack ∧ (fillS w q l s).pc = s.pc ∧
    (∀ i : Nat, (h : i < q.length) → holdP (fillS w q l s) q[i] = maskS w (rd l i)) ∧
    (∀ r, 0 ≤ r ∧ r < 4 → (∀ x ∈ q, x.reg = true → x.n ≠ r) → (fillS w q l s).reg r = s.reg r) ∧
    (∀ j, 0 ≤ j ∧ j < c → (∀ x ∈ q, x.reg = false → x.n ≠ j) → rd (fillS w q l s).mem j = rd s.mem j)
  | [], l, s, _, _, _, hc => by
    have e : fillS w [] l s = s := by cases l <;> rfl
    rw [e]
    exact ⟨hc, rfl, rfl, fun i h => by simp at h, fun _ _ _ => rfl, fun _ _ _ => rfl⟩
  | x :: q, [], s, _, _, hl, _ => by simp at hl
  | x :: q, n :: l, s, hq, ha, hl, hc => by
    have hx := hq x (by simp)
    have hq' : PlacesOk q c := fun y hy => hq y (by simp [hy])
    obtain ⟨ha1, ha2⟩ := List.pairwise_cons.1 ha
    have e : fillS w (x :: q) (n :: l) s = fillS w q l (putPlace s x (maskS w n)) := rfl
    rw [e]
    obtain ⟨xr, xn, xs⟩ := x
    cases xr with
    | true =>
      have hr0 := hx.1 rfl
      have e2 : putPlace s ⟨true, xn, xs⟩ (maskS w n) = s.setReg xn (maskS w n) := rfl
      rw [e2]
      obtain ⟨m1, m2, m3⟩ := setReg_mem s xn (maskS w n)
      obtain ⟨h1, h2, h3, h4, h5, h6⟩ := fill_hold w c q l (s.setReg xn (maskS w n)) hq' ha2 (by simpa using hl) (by rw [m1]; exact hc)
      refine ⟨h1, h2.trans m2, h3.trans m3, fun i hi => ?_, fun r hr hn => ?_, fun j hj hn => ?_⟩
      · cases i with
        | zero =>
          show holdP _ (⟨true, xn, xs⟩ : Place) = maskS w (rd (n :: l) ((0 : Nat) : Int))
          unfold holdP
          rw [if_pos rfl, h5 xn hr0 fun y hy hyr hyn => ha1 y hy ⟨hyr.symm, hyn.symm⟩, reg_setReg s _ hr0 hr0, if_pos rfl]
          rfl
        | succ i =>
          have h4i := h4 i (by simpa using hi)
          simp only [List.getElem_cons_succ]
          rw [h4i]
          congr 1
      · rw [h5 r hr fun y hy => hn y (by simp [hy]), reg_setReg s _ hr0 hr, if_neg fun e => hn _ (by simp) rfl e.symm]
      · rw [h6 j hj fun y hy => hn y (by simp [hy]), m1]
    | false =>
      have hr0 := hx.2 rfl
      have e2 : putPlace s ⟨false, xn, xs⟩ (maskS w n) = { s with mem := s.mem.set xn.toNat (maskS w n) } := rfl
      rw [e2]
      obtain ⟨h1, h2, h3, h4, h5, h6⟩ := fill_hold w c q l { s with mem := s.mem.set xn.toNat (maskS w n) } hq' ha2 (by simpa using hl) (by simpa using hc)
      refine ⟨h1, h2, h3, fun i hi => ?_, fun r hr hn => ?_, fun j hj hn => ?_⟩
      · cases i with
        | zero =>
          show holdP _ (⟨false, xn, xs⟩ : Place) = maskS w (rd (n :: l) ((0 : Nat) : Int))
          unfold holdP
          rw [if_neg (by simp)]
          show rd (fillS _ _ _ _).mem xn = _
          rw [h6 xn hr0 fun y hy hyr hyn => ha1 y hy ⟨hyr.symm, hyn.symm⟩]
          simp only
          rw [rd_set _ ⟨hr0.1, by omega⟩ hr0.1, if_pos rfl]
          rfl
        | succ i =>
          have h4i := h4 i (by simpa using hi)
          simp only [List.getElem_cons_succ]
          rw [h4i]
          congr 1
      · rw [h5 r hr fun y hy => hn y (by simp [hy])]; rfl
      · rw [h6 j hj fun y hy => hn y (by simp [hy])]
        simp only
        rw [rd_set _ ⟨hr0.1, by omega⟩ hj.1, if_neg fun e => hn _ (by simp) rfl e.symm]
theorem start_hold (p : Prg) (hm : Mems p.mems) (l : List Int) (hl : l.length = (placesS p).length) : ∃ s, startS p l = (s, true) ∧ s.mem.length = cellsS p.mems ∧ s.stack = [] ∧ s.pc = 0 ∧ (∀ i : Nat, (h : i < (placesS p).length) → holdP s (placesS p)[i] = maskS p.w (rd l i)) ∧ (∀ r, 0 ≤ r ∧ r < 4 → p.reg r = 0 → s.reg r = 0) := by
  have h0 := (places_len p hm).2.2
  obtain ⟨h1, h2, h3, h4, h5, h6⟩ := fill_hold p.w (cellsS p.mems) (placesS p) l (zeroSta (cellsS p.mems).toNat) (places_ok p hm) (places_apart p hm) hl (by simp [zeroSta]; omega)
  refine ⟨_, if_pos hl, h1, h2, h3, h4, fun r hr e => ?_⟩
  rw [h5 r hr ?_]
  · have : r = 0 ∨ r = 1 ∨ r = 2 ∨ r = 3 := by omega
    rcases this with rfl | rfl | rfl | rfl <;> rfl
  · intro x hx hxr hn
    rw [mem_places p hm] at hx
    rcases hx with ⟨g1, g2, g3, g4, g5⟩ | ⟨g1, g2, g3, g4⟩
    · rw [hn] at g4; exact g4 e
    · rw [hxr] at g1; cases g1
noncomputable def v_make (x : List Int × Unit) : Prg := makeS x.1
def sh_make (p : Prg) : RR := .agg (p.cells.map .d)
theorem e_make (x : List Int × Unit) : sh_make (v_make x) = c_make.ans x := rfl
def v_states (x : Prg × List Int × Int) : Sta × Sta := statesS x.1 x.2.1 x.2.2
theorem e_states (x : Prg × List Int × Int) : rss (v_states x) = c_states.ans x := rfl
def sh_states (x : Sta × Sta) : RR := rss x
theorem e_rPlaces (x : Prg) : rplaces (placesS x) = c_rPlaces.ans x := rfl
def v_rPlaces (x : Prg) : List Place := placesS x
def sh_rPlaces (x : List Place) : RR := rplaces x
theorem e_aLow (x : Prg × Sta × Sta) : rb (lowS x.1 x.2.1 x.2.2) = c_aLow.ans x := rfl
def v_aLow (x : Prg × Sta × Sta) : Bool := lowS x.1 x.2.1 x.2.2
def sh_aLow (x : Bool) : RR := rb x
theorem low_put {p : Prg} {a : Sta} {x : Place} {v : Int} (hm : Mems p.mems) (ha : a.mem.length = cellsS p.mems) (hx : x ∈ placesS p) (hv : v ≠ holdP a x) : lowS p a (putPlace a x v) = x.secret ∧ lowS p (putPlace a x v) a = x.secret ∧ (putPlace a x v).mem.length = cellsS p.mems ∧ (putPlace a x v).stack = a.stack ∧ (putPlace a x v).pc = a.pc := by
  rw [mem_places p hm] at hx
  obtain ⟨xr, xn, xs⟩ := x
  rcases hx with ⟨g1, g2, g3, g4, g5⟩ | ⟨g1, g2, g3, g4⟩ <;> simp only at g1 <;> subst g1
  · have e : putPlace a ⟨true, xn, xs⟩ v = a.setReg xn v := rfl
    simp only at g2 g3 g4 g5
    have hv : v ≠ a.reg xn := hv
    obtain ⟨m1, m2, m3⟩ := setReg_mem a xn v
    rw [e]
    refine ⟨?_, ?_, by rw [m1]; exact ha, m2, m3⟩
    all_goals rw [Bool.eq_iff_iff, lowS_iff hm (by first | exact ha | (rw [m1]; exact ha)) (by first | exact ha | (rw [m1]; exact ha)), m1, m2, m3, g5, decide_eq_true_iff]
    all_goals constructor
    all_goals first
      | (rintro ⟨_, _, h, _⟩
         refine Classical.byContradiction fun hn => ?_
         have := h xn ⟨g2, g3⟩ hn
         rw [reg_setReg a v ⟨g2, g3⟩ ⟨g2, g3⟩, if_pos rfl] at this
         first | exact hv this | exact hv this.symm)
      | (intro h
         refine ⟨rfl, rfl, fun r hr hn => ?_, fun _ _ _ => rfl⟩
         rw [reg_setReg a v ⟨g2, g3⟩ hr, if_neg (fun e => hn (by rw [e]; exact h))])
  · have e : putPlace a ⟨false, xn, xs⟩ v = { a with mem := a.mem.set xn.toNat v } := rfl
    simp only at g2 g3 g4
    have hv : v ≠ rd a.mem xn := hv
    have m1 : ({ a with mem := a.mem.set xn.toNat v } : Sta).mem.length = cellsS p.mems := by simpa using ha
    rw [e]
    refine ⟨?_, ?_, m1, rfl, rfl⟩
    all_goals rw [Bool.eq_iff_iff, lowS_iff hm (by first | exact ha | exact m1) (by first | exact ha | exact m1), g4]
    all_goals constructor
    all_goals first
      | (rintro ⟨_, _, _, h⟩
         refine Classical.byContradiction fun hn => ?_
         have := h xn ⟨g2, g3⟩ (by simpa using hn)
         rw [rd_set v ⟨g2, by omega⟩ g2, if_pos rfl] at this
         first | exact hv this | exact hv this.symm)
      | (intro h
         refine ⟨rfl, rfl, fun r hr hn => rfl, fun j hj hn => ?_⟩
         rw [rd_set v ⟨g2, by omega⟩ hj.1, if_neg (fun e => by rw [e, show secM p.mems xn = true from h] at hn; cases hn)])
theorem low_stack {p : Prg} {s t : Sta} (hm : Mems p.mems) (hs : s.mem.length = cellsS p.mems) (ht : t.mem.length = cellsS p.mems) (h : s.stack ≠ t.stack) : lowS p s t = false := by
  rw [Bool.eq_false_iff]
  intro hc
  exact h ((lowS_iff hm hs ht).1 hc).1
theorem xor1_ne {v : Int} (h0 : 0 ≤ v) (h1 : v < 65536) : bits .xor .i64 v 1 ≠ v := by
  obtain ⟨n, rfl⟩ := Int.eq_ofNat_of_zero_le h0
  have := bits_xorN n 1 (by omega) (by omega)
  rw [show ((1 : Nat) : Int) = 1 from rfl] at this
  rw [this]
  intro h
  have h2 : n ^^^ 1 = n := by exact_mod_cast h
  have h3 : n ^^^ (n ^^^ 1) = n ^^^ n := by rw [h2]
  rw [← Nat.xor_assoc, Nat.xor_self, Nat.zero_xor] at h3
  exact absurd h3 (by decide)
theorem WFM.toMems {p : Prg} (h : WFM p) : Mems p.mems := ⟨by have := h.mems.len; omega, fun m hm => by have := h.mems.n m hm; omega⟩
theorem low_none {p : Prg} {a b : Sta} (hm : Mems p.mems) (hq : (placesS p).length = 0) (ha : a.mem.length = cellsS p.mems) (hb : b.mem.length = cellsS p.mems) {r : Int} (hr : 0 ≤ r ∧ r < 4) (hne : a.reg r ≠ b.reg r) : lowS p a b = false := by
  rw [Bool.eq_false_iff]
  intro hc
  have h1 := ((lowS_iff hm ha hb).1 hc).2.2.1 r hr
  have h2 : p.reg r = 0 := Classical.byContradiction fun h => by
    have := (mem_places p hm ⟨true, r, decide (p.reg r = 2)⟩).2 (.inl ⟨rfl, hr.1, hr.2, h, rfl⟩)
    rw [List.eq_nil_of_length_eq_zero hq] at this
    cases this
  exact hne (h1 (by omega))
theorem low_self {p : Prg} {a : Sta} (hm : Mems p.mems) (ha : a.mem.length = cellsS p.mems) : lowS p a a = true := (lowS_iff hm ha ha).2 ⟨rfl, rfl, fun _ _ _ => rfl, fun _ _ _ => rfl⟩
theorem noplace_reg {p : Prg} (hm : Mems p.mems) (hq : (placesS p).length = 0) {r : Int} (hr : 0 ≤ r ∧ r < 4) : p.reg r = 0 := Classical.byContradiction fun h => by
  have := (mem_places p hm ⟨true, r, decide (p.reg r = 2)⟩).2 (.inl ⟨rfl, hr.1, hr.2, h, rfl⟩)
  rw [List.eq_nil_of_length_eq_zero hq] at this
  cases this
theorem wrap_succ0 {v : Int} (h : v = 0) : v ≠ IntKind.wrap .i64 (v + 1) := by subst h; decide
theorem tmod_range {a : Int} {n : Nat} (ha : 0 ≤ a) (hn : n ≠ 0) : 0 ≤ Int.tmod a n ∧ Int.tmod a n < n := ⟨Int.tmod_nonneg _ ha, Int.tmod_lt_of_pos a (show (0 : Int) < (n : Int) by omega)⟩
end Go.Proofs.Ytclabjihjopclaa.Ax
end

section
/- Plain laws: what the states of a pair hold. -/
namespace Go.Proofs.Ytclabjihjopclaa.Ax
open Go.RowKit
set_option linter.unusedVariables false
set_option linter.unusedSimpArgs false
def holdV (p : Prg) (s : Sta) (b : Bool) : List Int := ((placesS p).filter fun x => x.secret == b).map (holdP s)
theorem filt_idx {α : Type} (b : Bool) (f : Place → α) : ∀ (l : List Place) (i : Int), (l.filter fun x => x.secret == b).map f = (idxW b l i).map fun j => f (l.getD (j - i).toNat default)
  | [], i => rfl
  | x :: l, i => by
    have ih := filt_idx b f l (i + 1)
    have step : ((idxW b l (i + 1)).map fun j => f (l.getD (j - (i + 1)).toNat default)) = (idxW b l (i + 1)).map fun j => f ((x :: l).getD (j - i).toNat default) := by
      refine List.map_congr_left fun j hj => ?_
      obtain ⟨k, hk, rfl, _⟩ := (idxW_mem b l (i + 1) j).1 hj
      rw [show (i + 1 + (k : Int) - (i + 1)).toNat = k by omega, show (i + 1 + (k : Int) - i).toNat = k + 1 by omega]
      rfl
    rw [List.filter_cons]
    unfold idxW
    by_cases hx : x.secret = b
    · rw [if_pos (by simp [hx]), if_pos hx, List.map_cons, List.map_cons, ih, step]
      simp
    · rw [if_neg (by simp [hx]), if_neg hx, ih, step]
theorem holdV_len (p : Prg) (s : Sta) (b : Bool) : (holdV p s b).length = (idxW b (placesS p) 0).length := by
  unfold holdV
  rw [filt_idx b (holdP s) (placesS p) 0, List.length_map]
theorem holdV_start (p : Prg) (hm : Mems p.mems) (hw : okW p.w) (row : List Int) (hl : row.length = (placesS p).length) (b : Bool) : holdV p (startS p row).1 b = (idxW b (placesS p) 0).map fun j => maskS p.w (row.getD j.toNat 0) := by
  obtain ⟨s, hs, _, _, _, h4, _⟩ := start_hold p hm row hl
  rw [hs]
  unfold holdV
  rw [filt_idx b (holdP s) (placesS p) 0]
  refine List.map_congr_left fun j hj => ?_
  obtain ⟨k, hk, rfl, _⟩ := (idxW_mem b (placesS p) 0 j).1 hj
  rw [show (0 + (k : Int) - 0).toNat = k by omega, show (0 + (k : Int)).toNat = k by omega]
  have := h4 k hk
  rw [rd_getD] at this
  rw [List.getD_eq_getElem?_getD, List.getElem?_eq_getElem hk]
  exact this
theorem size_eq {w : Int} (h : okW w) : sizeS w = 2 ^ w.toNat := if_pos h
theorem mask_dig {w : Int} (h : okW w) (n : Int) : maskS w (n % sizeS w) = n % sizeS w := by
  have h1 := size_pos h
  have := Int.emod_nonneg n (show sizeS w ≠ 0 by omega)
  have h2 := Int.emod_lt_of_pos n (show 0 < sizeS w by omega)
  exact maskS_id h this (by rw [← size_eq h]; exact h2)
theorem map_digP (s : Int) (m : Nat) (n : Int) (l : List Int) (f : Int → Int) (hl : l.length = m) (h : ∀ k : Nat, k < m → f (rd l (k : Int)) = n / s ^ (m - 1 - k) % s) : l.map f = digP s m n := by
  refine List.ext_getElem (by rw [List.length_map, digP_len, hl]) fun k h1 h2 => ?_
  have hk : k < m := by rw [digP_len] at h2; exact h2
  have a := h k hk
  rw [rd_getD, List.getD_eq_getElem?_getD, List.getElem?_eq_getElem (by omega)] at a
  simp only [Option.getD_some] at a
  have b := digP_get s m n k hk
  rw [List.getD_eq_getElem?_getD, List.getElem?_eq_getElem h2] at b
  simp only [Option.getD_some] at b
  rw [List.getElem_map, a, b]
/-- The open places hold the digits of the one number, the secret ones those of the other. -/
theorem holdV_row (p : Prg) (hm : Mems p.mems) (hw : okW p.w) (u o : Int) : holdV p (startS p (rowP p u o)).1 false = digP (sizeS p.w) (openS p).length u ∧ holdV p (startS p (rowP p u o)).1 true = digP (sizeS p.w) (secS p).length o := by
  have h1 := size_pos hw
  constructor
  · rw [holdV_start p hm hw _ (rowP_len p u o)]
    refine map_digP _ _ _ _ _ rfl fun k hk => ?_
    show maskS p.w ((rowP p u o).getD (rd (openS p) (k : Int)).toNat 0) = _
    rw [rowP_open p (by omega) u o k hk, mask_dig hw]
  · rw [holdV_start p hm hw _ (rowP_len p u o)]
    refine map_digP _ _ _ _ _ rfl fun k hk => ?_
    show maskS p.w ((rowP p u o).getD (rd (secS p) (k : Int)).toNat 0) = _
    rw [rowP_sec p (by omega) u o k hk, mask_dig hw]
end Go.Proofs.Ytclabjihjopclaa.Ax
end
