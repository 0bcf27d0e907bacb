/- Cells and places: what arch's and the reference's functions come to. -/
import Derived.Test.YtclabjihjopclaaF2
namespace Go.Proofs.Ytclabjihjopclaa.Ax
open Go.RowKit
set_option linter.unusedVariables false
set_option linter.unusedSimpArgs false
def ap (p : Prg) : A := .agg p.cells
def rdP1 : List A → Prg
  | [.agg l] => Prg.of l
  | _ => default
theorem cells_drop (ms : List PMem) (k : Int) (h0 : 0 ≤ k) (h : k < ms.length) : cellsS (ms.drop k.toNat) = (rd ms k).n + cellsS (ms.drop (k + 1).toNat) := by rw [drop_rd ms k h0 h]; rfl
theorem cellsS_nonneg : ∀ {ms : List PMem}, (∀ m ∈ ms, 0 ≤ m.n ∧ m.n ≤ 16) → 0 ≤ cellsS ms ∧ cellsS ms ≤ 16 * ms.length
  | [], _ => by simp [cellsS]
  | m :: ms, h => by
    have h1 := h m (by simp)
    have h2 := cellsS_nonneg (ms := ms) fun x hx => h x (by simp [hx])
    simp only [cellsS, List.length_cons]
    omega
def c_aCells : FT Prg := ⟨43, fun p => [ap p], rdP1, fun p => Mems p.mems, fun p => ri (cellsS p.mems), false, fun p => by simp [ap, rdP1]⟩
noncomputable def a_aCells : FnA := (fnA Try.prog Try.f43 1 [(3, [3, 7, 8, 9])]).getD ⟨0, .skip, [], []⟩
def s_aCells : Sp := spT []
theorem s_aCells_sound : s_aCells.sound Try.prog := spT_sound fun e he => by cases he
def F_aCells (ms : List PMem) (n k : Int) : St := ⟨mkS 21 [(3, vi n), (7, vr (rowsOn ms)), (8, vi (rowsOn ms).length), (9, vi k)], []⟩
set_option maxRecDepth 100000 in
theorem t_aCells (p : Prg) : a_aCells.start s_aCells 400 [ap p] =
(FnA.at_ a_aCells 0 (F_aCells p.mems (0 : Int) (0 : Int))) := by kernel_rfl
set_option maxRecDepth 100000 in
theorem t_aCells0 (ms : List PMem) (n k : Int) : a_aCells.round s_aCells 400 0 (F_aCells ms n k) =
(VC.br (decide (k < (↑(List.length (rowsOn ms)) : Int)))
 (VC.need ((0 : Int) ≤ k ∧ k < (↑(List.length (rowsOn ms)) : Int) ∧ List.length (rowAt (rowsOn ms) (Int.toNat k)) = (3 : Nat))
 (VC.need (okSh [Kd.str, Kd.bool, Kd.int IntKind.i64] (rowAt (rowsOn ms) (Int.toNat k)))
 (FnA.at_ a_aCells 0 (F_aCells ms (IntKind.wrap IntKind.i64 (n + min (max (asInt (List.getD (rowAt (rowsOn ms) (Int.toNat k)) (2 : Nat) D.nilp)) (0 : Int)) (16 : Int))) (IntKind.wrap IntKind.i64 (k + (1 : Int)))))))
 (VC.ret (some (RR.c (Rc.d (D.int IntKind.i64 n)))))) := by kernel_rfl
theorem l_aCells (ms : List PMem) (hm : Mems ms) : ∀ i : Int × Int, (fun (i : Int × Int) => 0 ≤ i.2 ∧ i.2 ≤ ms.length ∧ i.1 + cellsS (ms.drop i.2.toNat) = cellsS ms ∧ 0 ≤ i.1 ∧ i.1 ≤ 16 * i.2) i → (a_aCells.at_ 0 ((fun (i : Int × Int) => F_aCells ms i.1 i.2) i)).holds s_aCells.cx a_aCells.rs (fun r => r.le (ri (cellsS ms))) := by
  refine loop_rule (a := a_aCells) (j := 0) (m := 400) s_aCells_sound (fun (i : Int × Int) => F_aCells ms i.1 i.2) (fun (i : Int × Int) => 0 ≤ i.2 ∧ i.2 ≤ ms.length ∧ i.1 + cellsS (ms.drop i.2.toNat) = cellsS ms ∧ 0 ≤ i.1 ∧ i.1 ≤ 16 * i.2) (fun (i : Int × Int) => ((ms.length : Int) - i.2).toNat) ?_
  rintro ⟨n, k⟩ h_inv ih
  try dsimp only at h_inv
  replace ih := fun (v0 : Int) (v1 : Int) => ih (v0, v1)
  try dsimp only at ih
  show VC.holds _ _ _ (a_aCells.round s_aCells 400 0 (F_aCells ms n k))
  rw [t_aCells0]
  try simp only [asRows_sl, asInt_int, asBool_bool, asStr_str, listOf_rowsOn, List.drop_zero, Prg.eta, Sta.eta, rowsOn_length, getD_drop, Nat.reduceAdd, rd_int, rd_PMem_name, rd_PMem_secret, rd_PMem_n, rd_PLabel_name, rd_PLabel_at_, rd_Ins_kind, rd_Ins_op, rd_Ins_d, rd_Ins_aR, rd_Ins_aN, rd_Ins_bR, rd_Ins_bN, rd_Ins_name, rd_Ins_target, rd_Ent_pc, rd_Ent_val, rd_Ent_addr, rd_Ent_fro, rd_Ent_next, rd_Ent_done, rd_Ent_known, rd_Ent_fault, rd_Place_reg, rd_Place_n, rd_Place_secret, rd_Obs_kind, rd_Obs_at_, rd_Dir_kind, rd_Dir_n]
  obtain ⟨h0, h1, h2, h3, h4⟩ := h_inv
  have hlen := hm.len
  repeat' first
    | refine br_not ?_
    | refine br_dec (fun _ => ?_) (fun _ => ?_)
    | refine br_beq (fun _ => ?_) (fun _ => ?_)
    | refine br_bne (fun _ => ?_) (fun _ => ?_)
    | refine br_holds (fun _ => ?_) (fun _ => ?_)
    | refine ⟨PreOk.mk ?_ rfl, ?_⟩
    | refine ⟨idx_ok _ _ _ rfl (by omega) (by omega), ?_⟩
    | refine ⟨okSh_ok _ _ _ (fun _ => rfl) (by omega) (by omega), ?_⟩
    | refine ⟨okSh_okD _ _ _ _ (fun _ => rfl) (by omega) (by omega), ?_⟩
    | refine ⟨aload_ok _ _ rfl (fun _ => rfl) (by omega) (by omega), ?_⟩
    | refine ⟨aload_okD _ _ _ rfl (fun _ => rfl) (by omega) (by omega), ?_⟩
    | refine ⟨astore_ok (by assumption) rfl (by omega) (by omega) (by decide), ?_⟩
    | refine ⟨app_ok (by assumption) rfl rfl (by simp only [List.length_cons, List.length_nil]; omega), ?_⟩
    | refine need_holds ?_ fun _ => ?_
    | refine all_holds fun y hy => ?_
    | refine ret_eq ?_
    | refine ih _ _ ?_ ?_
  · have h5 := hm.n _ (rd_mem ms k h0 ‹_›)
    rw [cells_drop ms k h0 ‹_›] at h2
    rw [wrap_small (k + 1) (by omega) (by omega), wrap_small _ (by omega) (by omega)]
    omega
  · rw [wrap_small (k + 1) (by omega) (by omega)]; omega
  · have hk : k.toNat = ms.length := by omega
    rw [hk, List.drop_length] at h2
    simp only [cellsS] at h2
    rw [show n = cellsS ms by omega]; rfl
theorem c_aCells_good : c_aCells.fe.Good Try.prog := by
  refine FT.good c_aCells ⟨Try.f43, by kernel_rfl, by decide +kernel, by kernel_rfl⟩ (fun p => by first | rfl | simp [c_aCells, rrRef, rplaces, Sta.fresh]) fun p hp => ?_
  refine acalls_le s_aCells_sound (fn := Try.f43) (a := a_aCells) (nargs := 1) (tbl := [(3, [3, 7, 8, 9])]) (by kernel_rfl) (by kernel_rfl) rfl (m := 400) ?_
  show VC.holds _ _ _ (a_aCells.start s_aCells 400 [ap p])
  rw [t_aCells]
  try simp only [asRows_sl, asInt_int, asBool_bool, asStr_str, listOf_rowsOn, List.drop_zero, Prg.eta, Sta.eta, rowsOn_length, getD_drop, Nat.reduceAdd, rd_int, rd_PMem_name, rd_PMem_secret, rd_PMem_n, rd_PLabel_name, rd_PLabel_at_, rd_Ins_kind, rd_Ins_op, rd_Ins_d, rd_Ins_aR, rd_Ins_aN, rd_Ins_bR, rd_Ins_bN, rd_Ins_name, rd_Ins_target, rd_Ent_pc, rd_Ent_val, rd_Ent_addr, rd_Ent_fro, rd_Ent_next, rd_Ent_done, rd_Ent_known, rd_Ent_fault, rd_Place_reg, rd_Place_n, rd_Place_secret, rd_Obs_kind, rd_Obs_at_, rd_Dir_kind, rd_Dir_n]
  try simp only [c_aCells] at hp
  exact l_aCells p.mems hp (0, 0) (by simp)
def c_rCells : FT Prg := ⟨47, fun p => [ap p], rdP1, fun p => Mems p.mems, fun p => ri (cellsS p.mems), false, fun p => by simp [ap, rdP1]⟩
noncomputable def a_rCells : FnA := (fnA Try.prog Try.f47 1 [(3, [1, 3, 4])]).getD ⟨0, .skip, [], []⟩
def s_rCells : Sp := spT []
theorem s_rCells_sound : s_rCells.sound Try.prog := spT_sound fun e he => by cases he
def F_rCells (p : Prg) (n k : Int) : St := ⟨mkS 21 [(1, vp 64), (3, vi n), (4, vi k)], [(64, bx p.cells)]⟩
set_option maxRecDepth 100000 in
theorem t_rCells (p : Prg) : a_rCells.start s_rCells 400 [ap p] =
(FnA.at_ a_rCells 0 (F_rCells p (0 : Int) (0 : Int))) := by kernel_rfl
set_option maxRecDepth 100000 in
theorem t_rCells0 (p : Prg) (n k : Int) : a_rCells.round s_rCells 400 0 (F_rCells p n k) =
(VC.br (decide (k < (↑(List.length (rowsOn p.mems)) : Int)))
 (VC.need ((0 : Int) ≤ k ∧ k < (↑(List.length (rowsOn p.mems)) : Int) ∧ List.length (rowAt (rowsOn p.mems) (Int.toNat k)) = (3 : Nat))
 (VC.need (okSh [Kd.int IntKind.i64] (List.drop (2 : Nat) (rowAt (rowsOn p.mems) (Int.toNat k))))
 (FnA.at_ a_rCells 0 (F_rCells p (IntKind.wrap IntKind.i64 (n + asInt (List.getD (List.drop (2 : Nat) (rowAt (rowsOn p.mems) (Int.toNat k))) (0 : Nat) D.nilp))) (IntKind.wrap IntKind.i64 (k + (1 : Int)))))))
 (VC.ret (some (RR.c (Rc.d (D.int IntKind.i64 n)))))) := by kernel_rfl
theorem l_rCells (p : Prg) (hm : Mems p.mems) : ∀ i : Int × Int, (fun (i : Int × Int) => 0 ≤ i.2 ∧ i.2 ≤ p.mems.length ∧ i.1 + cellsS (p.mems.drop i.2.toNat) = cellsS p.mems ∧ 0 ≤ i.1 ∧ i.1 ≤ 16 * i.2) i → (a_rCells.at_ 0 ((fun (i : Int × Int) => F_rCells p i.1 i.2) i)).holds s_rCells.cx a_rCells.rs (fun r => r.le (ri (cellsS p.mems))) := by
  refine loop_rule (a := a_rCells) (j := 0) (m := 400) s_rCells_sound (fun (i : Int × Int) => F_rCells p i.1 i.2) (fun (i : Int × Int) => 0 ≤ i.2 ∧ i.2 ≤ p.mems.length ∧ i.1 + cellsS (p.mems.drop i.2.toNat) = cellsS p.mems ∧ 0 ≤ i.1 ∧ i.1 ≤ 16 * i.2) (fun (i : Int × Int) => ((p.mems.length : Int) - i.2).toNat) ?_
  rintro ⟨n, k⟩ h_inv ih
  try dsimp only at h_inv
  replace ih := fun (v0 : Int) (v1 : Int) => ih (v0, v1)
  try dsimp only at ih
  show VC.holds _ _ _ (a_rCells.round s_rCells 400 0 (F_rCells p n k))
  rw [t_rCells0]
  try simp only [asRows_sl, asInt_int, asBool_bool, asStr_str, listOf_rowsOn, List.drop_zero, Prg.eta, Sta.eta, rowsOn_length, getD_drop, Nat.reduceAdd, rd_int, rd_PMem_name, rd_PMem_secret, rd_PMem_n, rd_PLabel_name, rd_PLabel_at_, rd_Ins_kind, rd_Ins_op, rd_Ins_d, rd_Ins_aR, rd_Ins_aN, rd_Ins_bR, rd_Ins_bN, rd_Ins_name, rd_Ins_target, rd_Ent_pc, rd_Ent_val, rd_Ent_addr, rd_Ent_fro, rd_Ent_next, rd_Ent_done, rd_Ent_known, rd_Ent_fault, rd_Place_reg, rd_Place_n, rd_Place_secret, rd_Obs_kind, rd_Obs_at_, rd_Dir_kind, rd_Dir_n]
  obtain ⟨h0, h1, h2, h3, h4⟩ := h_inv
  have hlen := hm.len
  repeat' first
    | refine br_not ?_
    | refine br_dec (fun _ => ?_) (fun _ => ?_)
    | refine br_beq (fun _ => ?_) (fun _ => ?_)
    | refine br_bne (fun _ => ?_) (fun _ => ?_)
    | refine br_holds (fun _ => ?_) (fun _ => ?_)
    | refine ⟨PreOk.mk ?_ rfl, ?_⟩
    | refine ⟨idx_ok _ _ _ rfl (by omega) (by omega), ?_⟩
    | refine ⟨okSh_ok _ _ _ (fun _ => rfl) (by omega) (by omega), ?_⟩
    | refine ⟨okSh_okD _ _ _ _ (fun _ => rfl) (by omega) (by omega), ?_⟩
    | refine ⟨aload_ok _ _ rfl (fun _ => rfl) (by omega) (by omega), ?_⟩
    | refine ⟨aload_okD _ _ _ rfl (fun _ => rfl) (by omega) (by omega), ?_⟩
    | refine ⟨astore_ok (by assumption) rfl (by omega) (by omega) (by decide), ?_⟩
    | refine ⟨app_ok (by assumption) rfl rfl (by simp only [List.length_cons, List.length_nil]; omega), ?_⟩
    | refine need_holds ?_ fun _ => ?_
    | refine all_holds fun y hy => ?_
    | refine ret_eq ?_
    | refine ih _ _ ?_ ?_
  · have h5 := hm.n _ (rd_mem p.mems k h0 ‹_›)
    rw [cells_drop p.mems k h0 ‹_›] at h2
    rw [wrap_small (k + 1) (by omega) (by omega), wrap_small _ (by omega) (by omega)]
    omega
  · rw [wrap_small (k + 1) (by omega) (by omega)]; omega
  · have hk : k.toNat = p.mems.length := by omega
    rw [hk, List.drop_length] at h2
    simp only [cellsS] at h2
    rw [show n = cellsS p.mems by omega]; rfl
theorem c_rCells_good : c_rCells.fe.Good Try.prog := by
  refine FT.good c_rCells ⟨Try.f47, by kernel_rfl, by decide +kernel, by kernel_rfl⟩ (fun p => by first | rfl | simp [c_rCells, rrRef, rplaces, Sta.fresh]) fun p hp => ?_
  refine acalls_le s_rCells_sound (fn := Try.f47) (a := a_rCells) (nargs := 1) (tbl := [(3, [1, 3, 4])]) (by kernel_rfl) (by kernel_rfl) rfl (m := 400) ?_
  show VC.holds _ _ _ (a_rCells.start s_rCells 400 [ap p])
  rw [t_rCells]
  try simp only [asRows_sl, asInt_int, asBool_bool, asStr_str, listOf_rowsOn, List.drop_zero, Prg.eta, Sta.eta, rowsOn_length, getD_drop, Nat.reduceAdd, rd_int, rd_PMem_name, rd_PMem_secret, rd_PMem_n, rd_PLabel_name, rd_PLabel_at_, rd_Ins_kind, rd_Ins_op, rd_Ins_d, rd_Ins_aR, rd_Ins_aN, rd_Ins_bR, rd_Ins_bN, rd_Ins_name, rd_Ins_target, rd_Ent_pc, rd_Ent_val, rd_Ent_addr, rd_Ent_fro, rd_Ent_next, rd_Ent_done, rd_Ent_known, rd_Ent_fault, rd_Place_reg, rd_Place_n, rd_Place_secret, rd_Obs_kind, rd_Obs_at_, rd_Dir_kind, rd_Dir_n]
  try simp only [c_rCells] at hp
  exact l_rCells p hp (0, 0) (by simp)
end Go.Proofs.Ytclabjihjopclaa.Ax
