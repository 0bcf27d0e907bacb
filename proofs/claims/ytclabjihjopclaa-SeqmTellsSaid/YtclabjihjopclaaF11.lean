/- Rows of numbers in bytes: code.Put, arch.Numbers, arch.Code, auguryref1.Put, auguryref7.Ints, Code, Same. -/
import Derived.Test.YtclabjihjopclaaF10
namespace Go.Proofs.Ytclabjihjopclaa.Ax
open Go.RowKit
set_option linter.unusedVariables false
set_option linter.unusedSimpArgs false
structure By where
  v : Int
  deriving Inhabited, DecidableEq
instance : Row By := ⟨fun p => [.int .u8 p.v], fun r => ⟨asInt (r.getD 0 .nilp)⟩, fun _ => rfl, 1, fun _ => rfl⟩
instance : NoRef By := ⟨fun _ => rfl⟩
def by8 (v : Int) : Nat → List By
  | 0 => []
  | k + 1 => ⟨IntKind.wrap .u8 (Int.fdiv (IntKind.wrap .u64 v) (2 ^ (8 * k)))⟩ :: by8 v k
def bytes1 (v : Int) : List By := if -1 ≤ v ∧ v ≤ 253 then [⟨IntKind.wrap .u8 (IntKind.wrap .i64 (v + 1))⟩] else ⟨255⟩ :: by8 v 8
def bytesS (l : List Int) : List By := l.flatMap bytes1
def c_put : FT (List Int × Unit) := ⟨85, fun l => [al l.1], rdL, fun l => l.1.length ≤ 1000000000, fun l => .c (.new 1 (rowsOn (bytesS l.1))), false, fun l => by simp [al, rdL]⟩
noncomputable def a_put : FnA := (fnA Try.prog Try.f85 1 [(3, [3, 7, 8, 9, 1000003000000900003001]), (9, [3, 5, 6, 7, 8, 9, 1000003000000900003001])]).getD ⟨0, .skip, [], []⟩
def s_put : Sp := spT []
theorem s_put_sound : s_put.sound Try.prog := spT_sound fun e he => by cases he
def F_put (l : List Int) (k : Int) (R : List (List D)) (n : Nat) : St := ⟨mkS 42 [(3, vo 900003 n), (7, vr (rowsOn l)), (8, vi (rowsOn l).length), (9, vi k)], [(900003, ba 1 R)]⟩
def F_puti (l : List Int) (k v s : Int) (R : List (List D)) (n : Nat) : St := ⟨mkS 42 [(3, vo 900003 n), (5, vi v), (6, vi s), (7, vr (rowsOn l)), (8, vi (rowsOn l).length), (9, vi k)], [(900003, ba 1 R)]⟩
set_option maxRecDepth 100000 in
theorem t_put (l : List Int) : a_put.start s_put 400 [al l] =
(FnA.at_ a_put 0 (F_put l (0 : Int) [] (0 : Nat))) := by kernel_rfl
set_option maxRecDepth 100000 in
theorem t_put0 (l : List Int) (k : Int) (R : List (List D)) (n : Nat) : a_put.round s_put 400 0 (F_put l k R n) =
(VC.br (decide (k < (↑(List.length (rowsOn l)) : Int)))
 (VC.need ((0 : Int) ≤ k ∧ k < (↑(List.length (rowsOn l)) : Int) ∧ List.length (rowAt (rowsOn l) (Int.toNat k)) = (1 : Nat))
 (VC.need (okSh [Kd.int IntKind.i64] (rowAt (rowsOn l) (Int.toNat k)))
 (VC.br (decide ((-1 : Int) ≤ asInt (List.getD (rowAt (rowsOn l) (Int.toNat k)) (0 : Nat) D.nilp)))
  (VC.br (decide (asInt (List.getD (rowAt (rowsOn l) (Int.toNat k)) (0 : Nat) D.nilp) ≤ (253 : Int)))
   (VC.need ((List.all [[D.int IntKind.u8 (IntKind.wrap IntKind.u8 (IntKind.wrap IntKind.i64 (asInt (List.getD (rowAt (rowsOn l) (Int.toNat k)) (0 : Nat) D.nilp) + (1 : Int))))]] fun r ↦ List.length r == (1 : Nat)) = true ∧ (List.all R fun r ↦ List.length r == (1 : Nat)) = true ∧ (List.length R + List.length [[D.int IntKind.u8 (IntKind.wrap IntKind.u8 (IntKind.wrap IntKind.i64 (asInt (List.getD (rowAt (rowsOn l) (Int.toNat k)) (0 : Nat) D.nilp) + (1 : Int))))]] + (100 : Nat)) * (2 : Nat) ≤ (70368744177664 : Nat))
   (FnA.at_ a_put 0 (F_put l (IntKind.wrap IntKind.i64 (k + (1 : Int))) (R ++ [[D.int IntKind.u8 (IntKind.wrap IntKind.u8 (IntKind.wrap IntKind.i64 (asInt (List.getD (rowAt (rowsOn l) (Int.toNat k)) (0 : Nat) D.nilp) + (1 : Int))))]]) (List.length R + List.length [[D.int IntKind.u8 (IntKind.wrap IntKind.u8 (IntKind.wrap IntKind.i64 (asInt (List.getD (rowAt (rowsOn l) (Int.toNat k)) (0 : Nat) D.nilp) + (1 : Int))))]]))))
   (VC.need ((List.all [[D.int IntKind.u8 (255 : Int)]] fun r ↦ List.length r == (1 : Nat)) = true ∧ (List.all R fun r ↦ List.length r == (1 : Nat)) = true ∧ (List.length R + (1 : Nat) + (100 : Nat)) * (2 : Nat) ≤ (70368744177664 : Nat))
   (FnA.at_ a_put 1 (F_puti l k (asInt (List.getD (rowAt (rowsOn l) (Int.toNat k)) (0 : Nat) D.nilp)) (56 : Int) (R ++ [[D.int IntKind.u8 (255 : Int)]]) (List.length R + (1 : Nat))))))
  (VC.need ((List.all [[D.int IntKind.u8 (255 : Int)]] fun r ↦ List.length r == (1 : Nat)) = true ∧ (List.all R fun r ↦ List.length r == (1 : Nat)) = true ∧ (List.length R + (1 : Nat) + (100 : Nat)) * (2 : Nat) ≤ (70368744177664 : Nat))
  (FnA.at_ a_put 1 (F_puti l k (asInt (List.getD (rowAt (rowsOn l) (Int.toNat k)) (0 : Nat) D.nilp)) (56 : Int) (R ++ [[D.int IntKind.u8 (255 : Int)]]) (List.length R + (1 : Nat))))))))
 (VC.ret (some (RR.c (Rc.new (1 : Nat) R))))) := by kernel_rfl
set_option maxRecDepth 100000 in
theorem t_put1 (l : List Int) (k v s : Int) (R : List (List D)) (n : Nat) : a_put.round s_put 400 1 (F_puti l k v s R n) =
(VC.br (decide ((0 : Int) ≤ s))
 (VC.need ((0 : Int) ≤ s)
 (VC.need ((List.all [[D.int IntKind.u8 (IntKind.wrap IntKind.u8 (Int.fdiv (IntKind.wrap IntKind.u64 v) ((2 : Int) ^ min (Int.toNat s) (64 : Nat))))]] fun r ↦ List.length r == (1 : Nat)) = true ∧ (List.all R fun r ↦ List.length r == (1 : Nat)) = true ∧ (List.length R + List.length [[D.int IntKind.u8 (IntKind.wrap IntKind.u8 (Int.fdiv (IntKind.wrap IntKind.u64 v) ((2 : Int) ^ min (Int.toNat s) (64 : Nat))))]] + (100 : Nat)) * (2 : Nat) ≤ (70368744177664 : Nat))
 (FnA.at_ a_put 1 (F_puti l k v (IntKind.wrap IntKind.i64 (s - (8 : Int))) (R ++ [[D.int IntKind.u8 (IntKind.wrap IntKind.u8 (Int.fdiv (IntKind.wrap IntKind.u64 v) ((2 : Int) ^ min (Int.toNat s) (64 : Nat))))]]) (List.length R + List.length [[D.int IntKind.u8 (IntKind.wrap IntKind.u8 (Int.fdiv (IntKind.wrap IntKind.u64 v) ((2 : Int) ^ min (Int.toNat s) (64 : Nat))))]])))))
 (FnA.at_ a_put 0 (F_put l (IntKind.wrap IntKind.i64 (k + (1 : Int))) R n))) := by kernel_rfl
theorem take_rd {α : Type} [Row α] (l : List α) (k : Int) (h0 : 0 ≤ k) (h : k < l.length) : l.take (k + 1).toNat = l.take k.toNat ++ [rd l k] := by
  have hi : k.toNat < l.length := by omega
  have h1 : (k + 1).toNat = k.toNat + 1 := by omega
  rw [h1, List.take_succ_eq_append_getElem hi]
  congr 2
  have := rd_lt l k.toNat hi
  rw [← this]
  congr 1
  omega
theorem by8_len (v : Int) : ∀ k, (by8 v k).length = k
  | 0 => rfl
  | k + 1 => by simp [by8, by8_len v k]
theorem bytes1_len (v : Int) : (bytes1 v).length ≤ 9 := by
  unfold bytes1
  split
  · simp
  · simp [by8_len]
theorem bytesS_len : ∀ l : List Int, (bytesS l).length ≤ 9 * l.length
  | [] => by simp [bytesS]
  | v :: l => by
    have h1 := bytes1_len v
    have h2 := bytesS_len l
    simp only [bytesS, List.flatMap_cons, List.length_append, List.length_cons] at h2 ⊢
    omega
theorem bytesS_snoc (l : List Int) (v : Int) : bytesS (l ++ [v]) = bytesS l ++ bytes1 v := by simp [bytesS]
theorem bytesS_take_len (l : List Int) (k : Nat) (hl : l.length ≤ 1000000000) : (bytesS (l.take k)).length ≤ 9000000000 := by
  have := bytesS_len (l.take k)
  have := List.length_take_le k l
  have : (l.take k).length ≤ l.length := by rw [List.length_take]; omega
  omega
theorem l_put1 (l : List Int) (k v : Int) (Q : RR → Prop) (out : List By) (hl : l.length ≤ 1000000000) (hk : 0 ≤ k ∧ k < l.length) (ho : out.length ≤ 10000000000)
    (cont : ∀ R n, OnL R n out → (a_put.at_ 0 (F_put l (k + 1) R n)).holds s_put.cx a_put.rs Q) : ∀ (j : Nat) (s : Int) (R : List (List D)) (n : Nat) (acc : List By), j ≤ 8 → s = 8 * (j : Int) - 8 → OnL R n acc → acc ++ by8 v j = out → (a_put.at_ 1 (F_puti l k v s R n)).holds s_put.cx a_put.rs Q := by
  intro j
  induction j with
  | zero =>
    intro s R n acc _ hs h1 h2
    refine at_of_round s_put_sound (m := 400) ?_
    rw [t_put1, wrap_small (k + 1) (by omega) (by omega)]
    refine br_dec (fun h => by omega) (fun h => ?_)
    refine cont R n ?_
    rw [← h2]
    simpa [by8] using h1
  | succ j ih =>
    intro s R n acc hj hs h1 h2
    refine at_of_round s_put_sound (m := 400) ?_
    have hlen : acc.length + (j + 1) = out.length := by rw [← h2, List.length_append, by8_len]
    have e : min (Int.toNat s) 64 = 8 * j := by omega
    rw [t_put1, wrap_small (k + 1) (by omega) (by omega), wrap_small (s - 8) (by omega) (by omega), e]
    refine br_dec (fun h => ?_) (fun h => by omega)
    refine ⟨by omega, app_ok h1 rfl rfl (by simp only [List.length_cons, List.length_nil]; omega), ?_⟩
    refine ih (s - 8) _ _ _ (by omega) (by omega) (h1.snoc (⟨_⟩ : By)) ?_
    rw [← h2, List.append_assoc]
    rfl
theorem l_put0 (l : List Int) (hl : l.length ≤ 1000000000) : ∀ i : Int × List (List D) × Nat, (fun (i : Int × List (List D) × Nat) => 0 ≤ i.1 ∧ i.1 ≤ l.length ∧ OnL i.2.1 i.2.2 (bytesS (l.take i.1.toNat))) i → (a_put.at_ 0 ((fun (i : Int × List (List D) × Nat) => F_put l i.1 i.2.1 i.2.2) i)).holds s_put.cx a_put.rs (fun r => r.le (.c (.new 1 (rowsOn (bytesS l))))) := by
  refine loop_rule (a := a_put) (j := 0) (m := 400) s_put_sound (fun (i : Int × List (List D) × Nat) => F_put l i.1 i.2.1 i.2.2) (fun (i : Int × List (List D) × Nat) => 0 ≤ i.1 ∧ i.1 ≤ l.length ∧ OnL i.2.1 i.2.2 (bytesS (l.take i.1.toNat))) (fun (i : Int × List (List D) × Nat) => ((l.length : Int) - i.1).toNat) ?_
  rintro ⟨k, R, n⟩ h_inv ih
  try dsimp only at h_inv
  replace ih := fun (v0 : Int) (v1 : List (List D)) (v2 : Nat) => ih (v0, v1, v2)
  try dsimp only at ih
  show VC.holds _ _ _ (a_put.round s_put 400 0 (F_put l k R n))
  rw [t_put0]
  try simp only [asRows_sl, asInt_int, asBool_bool, asStr_str, listOf_rowsOn, List.drop_zero, Prg.eta, Sta.eta, rowsOn_length, getD_drop, Nat.reduceAdd, rd_int, rd_PMem_name, rd_PMem_secret, rd_PMem_n, rd_PLabel_name, rd_PLabel_at_, rd_Ins_kind, rd_Ins_op, rd_Ins_d, rd_Ins_aR, rd_Ins_aN, rd_Ins_bR, rd_Ins_bN, rd_Ins_name, rd_Ins_target, rd_Ent_pc, rd_Ent_val, rd_Ent_addr, rd_Ent_fro, rd_Ent_next, rd_Ent_done, rd_Ent_known, rd_Ent_fault, rd_Place_reg, rd_Place_n, rd_Place_secret, rd_Obs_kind, rd_Obs_at_, rd_Dir_kind, rd_Dir_n]
  obtain ⟨h0, h1, h2⟩ := h_inv
  have w1 : IntKind.wrap .i64 (k + 1) = k + 1 := wrap_small _ (by omega) (by omega)
  have hb := bytesS_take_len l k.toNat hl
  try rw [w1]
  repeat' first
    | refine br_not ?_
    | refine br_dec (fun _ => ?_) (fun _ => ?_)
    | refine br_beq (fun _ => ?_) (fun _ => ?_)
    | refine br_bne (fun _ => ?_) (fun _ => ?_)
    | refine br_holds (fun _ => ?_) (fun _ => ?_)
    | refine ⟨PreOk.mk ?_ rfl, ?_⟩
    | refine ⟨idx_ok _ _ _ rfl (by omega) (by omega), ?_⟩
    | refine ⟨okSh_ok _ _ _ (fun _ => rfl) (by omega) (by omega), ?_⟩
    | refine ⟨okSh_okD _ _ _ _ (fun _ => rfl) (by omega) (by omega), ?_⟩
    | refine ⟨aload_ok _ _ rfl (fun _ => rfl) (by omega) (by omega), ?_⟩
    | refine ⟨aload_okD _ _ _ rfl (fun _ => rfl) (by omega) (by omega), ?_⟩
    | refine ⟨astore_ok (by assumption) rfl (by omega) (by omega) (by decide), ?_⟩
    | refine ⟨app_ok (by assumption) rfl rfl (by simp only [List.length_cons, List.length_nil]; omega), ?_⟩
    | refine need_holds ?_ fun _ => ?_
    | refine all_holds fun y hy => ?_
    | refine ret_le ?_
  · rename_i hk _ _
    refine ih _ _ _ ⟨by omega, by omega, ?_⟩ (by omega)
    rw [take_rd l k h0 hk, bytesS_snoc]
    have e : bytes1 (rd l k) = [⟨IntKind.wrap .u8 (IntKind.wrap .i64 (rd l k + 1))⟩] := by unfold bytes1; rw [if_pos ⟨‹_›, ‹_›⟩]
    rw [e]
    exact h2.snoc (⟨_⟩ : By)
  · rename_i hk _ _
    have e : bytes1 (rd l k) = ⟨255⟩ :: by8 (rd l k) 8 := by unfold bytes1; rw [if_neg (by omega)]
    have hb' := bytesS_take_len l (k + 1).toNat hl
    refine l_put1 l k (rd l k) _ (bytesS (l.take (k + 1).toNat)) hl ⟨h0, hk⟩ (by omega) (fun R n h => ih _ _ _ ⟨by omega, by omega, h⟩ (by omega)) 8 56 _ _ _ (by omega) (by omega) (h2.snoc (⟨255⟩ : By)) ?_
    rw [take_rd l k h0 hk, bytesS_snoc, e]
    simp
  · rename_i hk _
    have e : bytes1 (rd l k) = ⟨255⟩ :: by8 (rd l k) 8 := by unfold bytes1; rw [if_neg (by omega)]
    have hb' := bytesS_take_len l (k + 1).toNat hl
    refine l_put1 l k (rd l k) _ (bytesS (l.take (k + 1).toNat)) hl ⟨h0, hk⟩ (by omega) (fun R n h => ih _ _ _ ⟨by omega, by omega, h⟩ (by omega)) 8 56 _ _ _ (by omega) (by omega) (h2.snoc (⟨255⟩ : By)) ?_
    rw [take_rd l k h0 hk, bytesS_snoc, e]
    simp
  · have hk : k.toNat = l.length := by omega
    rw [hk, List.take_length] at h2
    rw [h2.1]
    exact RR.le_refl _
theorem c_put_good : c_put.fe.Good Try.prog := by
  refine FT.good c_put ⟨Try.f85, by kernel_rfl, by decide +kernel, by kernel_rfl⟩ (fun ⟨l, u⟩ => by first | rfl | simp [c_put, rrRef, rss, rnewI, rnewE, rstab, rplaces, ri, rb, rib, Sta.fresh]) fun ⟨l, u⟩ hp => ?_
  refine acalls_le s_put_sound (fn := Try.f85) (a := a_put) (nargs := 1) (tbl := [(3, [3, 7, 8, 9, 1000003000000900003001]), (9, [3, 5, 6, 7, 8, 9, 1000003000000900003001])]) (by kernel_rfl) (by kernel_rfl) rfl (m := 400) ?_
  show VC.holds _ _ _ (a_put.start s_put 400 [al l])
  rw [t_put]
  try simp only [asRows_sl, asInt_int, asBool_bool, asStr_str, listOf_rowsOn, List.drop_zero, Prg.eta, Sta.eta, rowsOn_length, getD_drop, Nat.reduceAdd, rd_int, rd_PMem_name, rd_PMem_secret, rd_PMem_n, rd_PLabel_name, rd_PLabel_at_, rd_Ins_kind, rd_Ins_op, rd_Ins_d, rd_Ins_aR, rd_Ins_aN, rd_Ins_bR, rd_Ins_bN, rd_Ins_name, rd_Ins_target, rd_Ent_pc, rd_Ent_val, rd_Ent_addr, rd_Ent_fro, rd_Ent_next, rd_Ent_done, rd_Ent_known, rd_Ent_fault, rd_Place_reg, rd_Place_n, rd_Place_secret, rd_Obs_kind, rd_Obs_at_, rd_Dir_kind, rd_Dir_n]
  try simp only [c_put] at hp
  repeat' first
    | refine br_not ?_
    | refine br_dec (fun _ => ?_) (fun _ => ?_)
    | refine br_beq (fun _ => ?_) (fun _ => ?_)
    | refine br_bne (fun _ => ?_) (fun _ => ?_)
    | refine br_holds (fun _ => ?_) (fun _ => ?_)
    | refine ⟨PreOk.mk ?_ rfl, ?_⟩
    | refine ⟨idx_ok _ _ _ rfl (by omega) (by omega), ?_⟩
    | refine ⟨okSh_ok _ _ _ (fun _ => rfl) (by omega) (by omega), ?_⟩
    | refine ⟨okSh_okD _ _ _ _ (fun _ => rfl) (by omega) (by omega), ?_⟩
    | refine ⟨aload_ok _ _ rfl (fun _ => rfl) (by omega) (by omega), ?_⟩
    | refine ⟨aload_okD _ _ _ rfl (fun _ => rfl) (by omega) (by omega), ?_⟩
    | refine ⟨astore_ok (by assumption) rfl (by omega) (by omega) (by decide), ?_⟩
    | refine ⟨app_ok (by assumption) rfl rfl (by simp only [List.length_cons, List.length_nil]; omega), ?_⟩
    | refine need_holds ?_ fun _ => ?_
    | refine all_holds fun y hy => ?_
    | refine ret_le ?_
  exact l_put0 l hp (0, [], 0) ⟨by simp, by simp, by simpa [bytesS] using OnL.nil⟩
def rnum (s : Sta) : RR := .c (.new 1 (rowsOn (numsS s)))
def c_aNum : FT (Sta × Unit) := ⟨86, fun s => [as_ s.1], rdS, fun s => SmallS s.1, fun s => rnum s.1, false, fun s => by simp [as_, rdS]⟩
noncomputable def a_aNum : FnA := (fnA Try.prog Try.f86 1 []).getD ⟨0, .skip, [], []⟩
def s_aNum : Sp := spT [] (fz := [64])
theorem s_aNum_sound : s_aNum.sound Try.prog := spT_sound fun e he => by cases he
set_option maxRecDepth 100000 in
theorem t_aNum (s : Sta) : a_aNum.start s_aNum 400 [as_ s] =
(VC.need ((List.all [[D.int IntKind.i64 (↑(List.length (rowsOn s.mem)) : Int)]] fun r ↦ List.length r == (1 : Nat)) = true ∧ (List.all [[D.int IntKind.i64 s.r0], [D.int IntKind.i64 s.r1], [D.int IntKind.i64 s.r2], [D.int IntKind.i64 s.r3]] fun r ↦ List.length r == (1 : Nat)) = true ∧ (List.length [[D.int IntKind.i64 s.r0], [D.int IntKind.i64 s.r1], [D.int IntKind.i64 s.r2], [D.int IntKind.i64 s.r3]] + List.length [[D.int IntKind.i64 (↑(List.length (rowsOn s.mem)) : Int)]] + (100 : Nat)) * (9 : Nat) ≤ (70368744177664 : Nat))
(VC.need (List.isEmpty [[D.int IntKind.i64 (↑(List.length (rowsOn s.mem)) : Int)]] = false)
(VC.need ((List.all (rowsOn s.mem) fun r ↦ List.length r == (1 : Nat)) = true ∧ (List.all [[D.int IntKind.i64 s.r0], [D.int IntKind.i64 s.r1], [D.int IntKind.i64 s.r2], [D.int IntKind.i64 s.r3], [D.int IntKind.i64 (↑(List.length (rowsOn s.mem)) : Int)]] fun r ↦ List.length r == (1 : Nat)) = true ∧ (List.length [[D.int IntKind.i64 s.r0], [D.int IntKind.i64 s.r1], [D.int IntKind.i64 s.r2], [D.int IntKind.i64 s.r3], [D.int IntKind.i64 (↑(List.length (rowsOn s.mem)) : Int)]] + List.length (rowsOn s.mem) + (100 : Nat)) * (9 : Nat) ≤ (70368744177664 : Nat))
(VC.need ((List.all [[D.int IntKind.i64 (↑(List.length (rowsOn s.stack)) : Int)]] fun r ↦ List.length r == (1 : Nat)) = true ∧ (List.all ([[D.int IntKind.i64 s.r0], [D.int IntKind.i64 s.r1], [D.int IntKind.i64 s.r2], [D.int IntKind.i64 s.r3], [D.int IntKind.i64 (↑(List.length (rowsOn s.mem)) : Int)]] ++ rowsOn s.mem) fun r ↦ List.length r == (1 : Nat)) = true ∧ (List.length ([[D.int IntKind.i64 s.r0], [D.int IntKind.i64 s.r1], [D.int IntKind.i64 s.r2], [D.int IntKind.i64 s.r3], [D.int IntKind.i64 (↑(List.length (rowsOn s.mem)) : Int)]] ++ rowsOn s.mem) + List.length [[D.int IntKind.i64 (↑(List.length (rowsOn s.stack)) : Int)]] + (100 : Nat)) * (9 : Nat) ≤ (70368744177664 : Nat))
(VC.need ((List.all (rowsOn s.stack) fun r ↦ List.length r == (1 : Nat)) = true ∧ (List.all ([[D.int IntKind.i64 s.r0], [D.int IntKind.i64 s.r1], [D.int IntKind.i64 s.r2], [D.int IntKind.i64 s.r3], [D.int IntKind.i64 (↑(List.length (rowsOn s.mem)) : Int)]] ++ rowsOn s.mem ++ [[D.int IntKind.i64 (↑(List.length (rowsOn s.stack)) : Int)]]) fun r ↦ List.length r == (1 : Nat)) = true ∧ (List.length ([[D.int IntKind.i64 s.r0], [D.int IntKind.i64 s.r1], [D.int IntKind.i64 s.r2], [D.int IntKind.i64 s.r3], [D.int IntKind.i64 (↑(List.length (rowsOn s.mem)) : Int)]] ++ rowsOn s.mem ++ [[D.int IntKind.i64 (↑(List.length (rowsOn s.stack)) : Int)]]) + List.length (rowsOn s.stack) + (100 : Nat)) * (9 : Nat) ≤ (70368744177664 : Nat))
(VC.need ((List.all [[D.int IntKind.i64 s.pc]] fun r ↦ List.length r == (1 : Nat)) = true ∧ (List.all ([[D.int IntKind.i64 s.r0], [D.int IntKind.i64 s.r1], [D.int IntKind.i64 s.r2], [D.int IntKind.i64 s.r3], [D.int IntKind.i64 (↑(List.length (rowsOn s.mem)) : Int)]] ++ rowsOn s.mem ++ [[D.int IntKind.i64 (↑(List.length (rowsOn s.stack)) : Int)]] ++ rowsOn s.stack) fun r ↦ List.length r == (1 : Nat)) = true ∧ (List.length ([[D.int IntKind.i64 s.r0], [D.int IntKind.i64 s.r1], [D.int IntKind.i64 s.r2], [D.int IntKind.i64 s.r3], [D.int IntKind.i64 (↑(List.length (rowsOn s.mem)) : Int)]] ++ rowsOn s.mem ++ [[D.int IntKind.i64 (↑(List.length (rowsOn s.stack)) : Int)]] ++ rowsOn s.stack) + List.length [[D.int IntKind.i64 s.pc]] + (100 : Nat)) * (9 : Nat) ≤ (70368744177664 : Nat))
(VC.ret (some (RR.c (Rc.new (1 : Nat) ([[D.int IntKind.i64 s.r0], [D.int IntKind.i64 s.r1], [D.int IntKind.i64 s.r2], [D.int IntKind.i64 s.r3], [D.int IntKind.i64 (↑(List.length (rowsOn s.mem)) : Int)]] ++ rowsOn s.mem ++ [[D.int IntKind.i64 (↑(List.length (rowsOn s.stack)) : Int)]] ++ rowsOn s.stack ++ [[D.int IntKind.i64 s.pc]]))))))))))) := by kernel_rfl
def c_rInts : FT (Sta × Unit) := ⟨100, fun s => [as_ s.1], rdS, fun s => SmallS s.1, fun s => rnum s.1, false, fun s => by simp [as_, rdS]⟩
noncomputable def a_rInts : FnA := (fnA Try.prog Try.f100 1 []).getD ⟨0, .skip, [], []⟩
def s_rInts : Sp := spT []
theorem s_rInts_sound : s_rInts.sound Try.prog := spT_sound fun e he => by cases he
set_option maxRecDepth 100000 in
theorem t_rInts (s : Sta) : a_rInts.start s_rInts 400 [as_ s] =
(VC.need ((List.all (rowsOn s.mem) fun r ↦ List.length r == (1 : Nat)) = true ∧ (List.all [[D.int IntKind.i64 s.r0], [D.int IntKind.i64 s.r1], [D.int IntKind.i64 s.r2], [D.int IntKind.i64 s.r3], [D.int IntKind.i64 (↑(List.length (rowsOn s.mem)) : Int)]] fun r ↦ List.length r == (1 : Nat)) = true ∧ (List.length [[D.int IntKind.i64 s.r0], [D.int IntKind.i64 s.r1], [D.int IntKind.i64 s.r2], [D.int IntKind.i64 s.r3], [D.int IntKind.i64 (↑(List.length (rowsOn s.mem)) : Int)]] + List.length (rowsOn s.mem) + (100 : Nat)) * (9 : Nat) ≤ (70368744177664 : Nat))
(VC.need ((List.all [[D.int IntKind.i64 (↑(List.length (rowsOn s.stack)) : Int)]] fun r ↦ List.length r == (1 : Nat)) = true ∧ (List.all ([[D.int IntKind.i64 s.r0], [D.int IntKind.i64 s.r1], [D.int IntKind.i64 s.r2], [D.int IntKind.i64 s.r3], [D.int IntKind.i64 (↑(List.length (rowsOn s.mem)) : Int)]] ++ rowsOn s.mem) fun r ↦ List.length r == (1 : Nat)) = true ∧ (List.length ([[D.int IntKind.i64 s.r0], [D.int IntKind.i64 s.r1], [D.int IntKind.i64 s.r2], [D.int IntKind.i64 s.r3], [D.int IntKind.i64 (↑(List.length (rowsOn s.mem)) : Int)]] ++ rowsOn s.mem) + List.length [[D.int IntKind.i64 (↑(List.length (rowsOn s.stack)) : Int)]] + (100 : Nat)) * (9 : Nat) ≤ (70368744177664 : Nat))
(VC.need ((List.all (rowsOn s.stack) fun r ↦ List.length r == (1 : Nat)) = true ∧ (List.all ([[D.int IntKind.i64 s.r0], [D.int IntKind.i64 s.r1], [D.int IntKind.i64 s.r2], [D.int IntKind.i64 s.r3], [D.int IntKind.i64 (↑(List.length (rowsOn s.mem)) : Int)]] ++ rowsOn s.mem ++ [[D.int IntKind.i64 (↑(List.length (rowsOn s.stack)) : Int)]]) fun r ↦ List.length r == (1 : Nat)) = true ∧ (List.length ([[D.int IntKind.i64 s.r0], [D.int IntKind.i64 s.r1], [D.int IntKind.i64 s.r2], [D.int IntKind.i64 s.r3], [D.int IntKind.i64 (↑(List.length (rowsOn s.mem)) : Int)]] ++ rowsOn s.mem ++ [[D.int IntKind.i64 (↑(List.length (rowsOn s.stack)) : Int)]]) + List.length (rowsOn s.stack) + (100 : Nat)) * (9 : Nat) ≤ (70368744177664 : Nat))
(VC.need ((List.all [[D.int IntKind.i64 s.pc]] fun r ↦ List.length r == (1 : Nat)) = true ∧ (List.all ([[D.int IntKind.i64 s.r0], [D.int IntKind.i64 s.r1], [D.int IntKind.i64 s.r2], [D.int IntKind.i64 s.r3], [D.int IntKind.i64 (↑(List.length (rowsOn s.mem)) : Int)]] ++ rowsOn s.mem ++ [[D.int IntKind.i64 (↑(List.length (rowsOn s.stack)) : Int)]] ++ rowsOn s.stack) fun r ↦ List.length r == (1 : Nat)) = true ∧ (List.length ([[D.int IntKind.i64 s.r0], [D.int IntKind.i64 s.r1], [D.int IntKind.i64 s.r2], [D.int IntKind.i64 s.r3], [D.int IntKind.i64 (↑(List.length (rowsOn s.mem)) : Int)]] ++ rowsOn s.mem ++ [[D.int IntKind.i64 (↑(List.length (rowsOn s.stack)) : Int)]] ++ rowsOn s.stack) + List.length [[D.int IntKind.i64 s.pc]] + (100 : Nat)) * (9 : Nat) ≤ (70368744177664 : Nat))
(VC.ret (some (RR.c (Rc.new (1 : Nat) ([[D.int IntKind.i64 s.r0], [D.int IntKind.i64 s.r1], [D.int IntKind.i64 s.r2], [D.int IntKind.i64 s.r3], [D.int IntKind.i64 (↑(List.length (rowsOn s.mem)) : Int)]] ++ rowsOn s.mem ++ [[D.int IntKind.i64 (↑(List.length (rowsOn s.stack)) : Int)]] ++ rowsOn s.stack ++ [[D.int IntKind.i64 s.pc]]))))))))) := by kernel_rfl
theorem all1 (l : List Int) : ((rowsOn l).all fun r => r.length == 1) = true := rowsOn_all l 1 rfl
theorem rnum_eq (s : Sta) : ([[D.int .i64 s.r0], [.int .i64 s.r1], [.int .i64 s.r2], [.int .i64 s.r3], [.int .i64 ((rowsOn s.mem).length : Int)]] ++ rowsOn s.mem ++ [[.int .i64 ((rowsOn s.stack).length : Int)]] ++ rowsOn s.stack ++ [[.int .i64 s.pc]]) = rowsOn (numsS s) := by
  simp only [numsS, rowsOn_append, rowsOn_length]
  rfl
theorem c_aNum_good : c_aNum.fe.Good Try.prog := by
  refine FT.good c_aNum ⟨Try.f86, by kernel_rfl, by decide +kernel, by kernel_rfl⟩ (fun ⟨s, u⟩ => by first | rfl | simp [c_aNum, rrRef, rss, rnewI, rnewE, rstab, rplaces, ri, rb, rib, rnum, Sta.fresh]) fun ⟨s, u⟩ hp => ?_
  refine acalls_le s_aNum_sound (fn := Try.f86) (a := a_aNum) (nargs := 1) (tbl := []) (by kernel_rfl) (by kernel_rfl) rfl (m := 400) ?_
  show VC.holds _ _ _ (a_aNum.start s_aNum 400 [as_ s])
  rw [t_aNum]
  try simp only [asRows_sl, asInt_int, asBool_bool, asStr_str, listOf_rowsOn, List.drop_zero, Prg.eta, Sta.eta, rowsOn_length, getD_drop, Nat.reduceAdd, rd_int, rd_PMem_name, rd_PMem_secret, rd_PMem_n, rd_PLabel_name, rd_PLabel_at_, rd_Ins_kind, rd_Ins_op, rd_Ins_d, rd_Ins_aR, rd_Ins_aN, rd_Ins_bR, rd_Ins_bN, rd_Ins_name, rd_Ins_target, rd_Ent_pc, rd_Ent_val, rd_Ent_addr, rd_Ent_fro, rd_Ent_next, rd_Ent_done, rd_Ent_known, rd_Ent_fault, rd_Place_reg, rd_Place_n, rd_Place_secret, rd_Obs_kind, rd_Obs_at_, rd_Dir_kind, rd_Dir_n]
  try simp only [c_aNum] at hp
  obtain ⟨h1, h2⟩ := hp
  have e := rnum_eq s
  rw [rowsOn_length, rowsOn_length] at e
  rw [e]
  repeat' first
    | refine br_not ?_
    | refine br_dec (fun _ => ?_) (fun _ => ?_)
    | refine br_beq (fun _ => ?_) (fun _ => ?_)
    | refine br_bne (fun _ => ?_) (fun _ => ?_)
    | refine br_holds (fun _ => ?_) (fun _ => ?_)
    | refine ⟨PreOk.mk ?_ rfl, ?_⟩
    | refine ⟨idx_ok _ _ _ rfl (by omega) (by omega), ?_⟩
    | refine ⟨okSh_ok _ _ _ (fun _ => rfl) (by omega) (by omega), ?_⟩
    | refine ⟨okSh_okD _ _ _ _ (fun _ => rfl) (by omega) (by omega), ?_⟩
    | refine ⟨aload_ok _ _ rfl (fun _ => rfl) (by omega) (by omega), ?_⟩
    | refine ⟨aload_okD _ _ _ rfl (fun _ => rfl) (by omega) (by omega), ?_⟩
    | refine ⟨astore_ok (by assumption) rfl (by omega) (by omega) (by decide), ?_⟩
    | refine ⟨app_ok (by assumption) rfl rfl (by simp only [List.length_cons, List.length_nil]; omega), ?_⟩
    | refine need_holds ?_ fun _ => ?_
    | refine all_holds fun y hy => ?_
    | refine ret_le ?_
  all_goals try (refine ⟨?_, ?_, ?_⟩ <;> simp [all1, rowsOn_length] <;> omega)
  · rfl
  · exact RR.le_refl _
theorem c_rInts_good : c_rInts.fe.Good Try.prog := by
  refine FT.good c_rInts ⟨Try.f100, by kernel_rfl, by decide +kernel, by kernel_rfl⟩ (fun ⟨s, u⟩ => by first | rfl | simp [c_rInts, rrRef, rss, rnewI, rnewE, rstab, rplaces, ri, rb, rib, rnum, Sta.fresh]) fun ⟨s, u⟩ hp => ?_
  refine acalls_le s_rInts_sound (fn := Try.f100) (a := a_rInts) (nargs := 1) (tbl := []) (by kernel_rfl) (by kernel_rfl) rfl (m := 400) ?_
  show VC.holds _ _ _ (a_rInts.start s_rInts 400 [as_ s])
  rw [t_rInts]
  try simp only [asRows_sl, asInt_int, asBool_bool, asStr_str, listOf_rowsOn, List.drop_zero, Prg.eta, Sta.eta, rowsOn_length, getD_drop, Nat.reduceAdd, rd_int, rd_PMem_name, rd_PMem_secret, rd_PMem_n, rd_PLabel_name, rd_PLabel_at_, rd_Ins_kind, rd_Ins_op, rd_Ins_d, rd_Ins_aR, rd_Ins_aN, rd_Ins_bR, rd_Ins_bN, rd_Ins_name, rd_Ins_target, rd_Ent_pc, rd_Ent_val, rd_Ent_addr, rd_Ent_fro, rd_Ent_next, rd_Ent_done, rd_Ent_known, rd_Ent_fault, rd_Place_reg, rd_Place_n, rd_Place_secret, rd_Obs_kind, rd_Obs_at_, rd_Dir_kind, rd_Dir_n]
  try simp only [c_rInts] at hp
  obtain ⟨h1, h2⟩ := hp
  have e := rnum_eq s
  rw [rowsOn_length, rowsOn_length] at e
  rw [e]
  repeat' first
    | refine br_not ?_
    | refine br_dec (fun _ => ?_) (fun _ => ?_)
    | refine br_beq (fun _ => ?_) (fun _ => ?_)
    | refine br_bne (fun _ => ?_) (fun _ => ?_)
    | refine br_holds (fun _ => ?_) (fun _ => ?_)
    | refine ⟨PreOk.mk ?_ rfl, ?_⟩
    | refine ⟨idx_ok _ _ _ rfl (by omega) (by omega), ?_⟩
    | refine ⟨okSh_ok _ _ _ (fun _ => rfl) (by omega) (by omega), ?_⟩
    | refine ⟨okSh_okD _ _ _ _ (fun _ => rfl) (by omega) (by omega), ?_⟩
    | refine ⟨aload_ok _ _ rfl (fun _ => rfl) (by omega) (by omega), ?_⟩
    | refine ⟨aload_okD _ _ _ rfl (fun _ => rfl) (by omega) (by omega), ?_⟩
    | refine ⟨astore_ok (by assumption) rfl (by omega) (by omega) (by decide), ?_⟩
    | refine ⟨app_ok (by assumption) rfl rfl (by simp only [List.length_cons, List.length_nil]; omega), ?_⟩
    | refine need_holds ?_ fun _ => ?_
    | refine all_holds fun y hy => ?_
    | refine ret_le ?_
  all_goals try (refine ⟨?_, ?_, ?_⟩ <;> simp [all1, rowsOn_length] <;> omega)
  · exact RR.le_refl _
def rby (l : List By) : RR := .c (.new 1 (rowsOn l))
def codeS (s : Sta) : List By := bytesS (numsS s)
theorem nums_len (s : Sta) : (numsS s).length = s.mem.length + s.stack.length + 7 := by simp [numsS]; omega
def c_aCode : FT (Sta × Unit) := ⟨39, fun s => [as_ s.1], rdS, fun s => SmallS s.1, fun s => rby (codeS s.1), false, fun s => by simp [as_, rdS]⟩
noncomputable def a_aCode : FnA := (fnA Try.prog Try.f39 1 []).getD ⟨0, .skip, [], []⟩
noncomputable def v_aNum : Sta × Unit → List Int := fun x => numsS x.1
noncomputable def sh_aNum : List Int → RR := fun l => .c (.new 1 (rowsOn l))
theorem e_aNum (x : Sta × Unit) : sh_aNum (v_aNum x) = c_aNum.ans x := rfl
noncomputable def s_aCode : Sp := spT [c_aNum.gfe v_aNum sh_aNum e_aNum, c_put.fe]
theorem s_aCode_sound : s_aCode.sound Try.prog := spT_sound fun e he => by
  simp only [List.mem_cons, List.not_mem_nil, or_false] at he
  rcases he with rfl | rfl
  · exact FT.gfe_good c_aNum_good
  · exact c_put_good
set_option maxRecDepth 100000 in
theorem t_aCode (s : Sta) : a_aCode.start s_aCode 400 [as_ s] =
(VC.need (PreOk c_aNum (Sta.of (Sta.cells s), ()) [A.agg (Sta.cells s)])
(VC.all (v_aNum (Sta.of (Sta.cells s), ())) fun (y1 : List Int) =>
(VC.need (PreOk c_put (y1, ()) [A.c (D.sl (rowsOn y1))])
(VC.ret (some (RR.c (Rc.new (1 : Nat) (rowsOn (bytesS (listOf Int (rowsOn y1))))))))))) := by kernel_rfl
theorem c_aCode_good : c_aCode.fe.Good Try.prog := by
  refine FT.good c_aCode ⟨Try.f39, by kernel_rfl, by decide +kernel, by kernel_rfl⟩ (fun ⟨s, u⟩ => by first | rfl | simp [c_aCode, rrRef, rss, rnewI, rnewE, rstab, rplaces, ri, rb, rib, rnum, rby, Sta.fresh]) fun ⟨s, u⟩ hp => ?_
  refine acalls_le s_aCode_sound (fn := Try.f39) (a := a_aCode) (nargs := 1) (tbl := []) (by kernel_rfl) (by kernel_rfl) rfl (m := 400) ?_
  show VC.holds _ _ _ (a_aCode.start s_aCode 400 [as_ s])
  rw [t_aCode]
  try simp only [asRows_sl, asInt_int, asBool_bool, asStr_str, listOf_rowsOn, List.drop_zero, Prg.eta, Sta.eta, rowsOn_length, getD_drop, Nat.reduceAdd, rd_int, rd_PMem_name, rd_PMem_secret, rd_PMem_n, rd_PLabel_name, rd_PLabel_at_, rd_Ins_kind, rd_Ins_op, rd_Ins_d, rd_Ins_aR, rd_Ins_aN, rd_Ins_bR, rd_Ins_bN, rd_Ins_name, rd_Ins_target, rd_Ent_pc, rd_Ent_val, rd_Ent_addr, rd_Ent_fro, rd_Ent_next, rd_Ent_done, rd_Ent_known, rd_Ent_fault, rd_Place_reg, rd_Place_n, rd_Place_secret, rd_Obs_kind, rd_Obs_at_, rd_Dir_kind, rd_Dir_n]
  try simp only [c_aCode] at hp
  obtain ⟨h1, h2⟩ := hp
  have hl := nums_len s
  simp only [Sta.of_cells]
  repeat' first
    | refine br_not ?_
    | refine br_dec (fun _ => ?_) (fun _ => ?_)
    | refine br_beq (fun _ => ?_) (fun _ => ?_)
    | refine br_bne (fun _ => ?_) (fun _ => ?_)
    | refine br_holds (fun _ => ?_) (fun _ => ?_)
    | refine ⟨PreOk.mk ?_ rfl, ?_⟩
    | refine ⟨idx_ok _ _ _ rfl (by omega) (by omega), ?_⟩
    | refine ⟨okSh_ok _ _ _ (fun _ => rfl) (by omega) (by omega), ?_⟩
    | refine ⟨okSh_okD _ _ _ _ (fun _ => rfl) (by omega) (by omega), ?_⟩
    | refine ⟨aload_ok _ _ rfl (fun _ => rfl) (by omega) (by omega), ?_⟩
    | refine ⟨aload_okD _ _ _ rfl (fun _ => rfl) (by omega) (by omega), ?_⟩
    | refine ⟨astore_ok (by assumption) rfl (by omega) (by omega) (by decide), ?_⟩
    | refine ⟨app_ok (by assumption) rfl rfl (by simp only [List.length_cons, List.length_nil]; omega), ?_⟩
    | refine need_holds ?_ fun _ => ?_
    | refine all_holds fun y hy => ?_
    | refine ret_le ?_
  · exact ⟨h1, h2⟩
  · subst y
    show (numsS s).length ≤ 1000000000
    omega
  · subst y
    exact RR.le_refl _
def c_rPut : FT (List Int × Unit) := ⟨89, fun l => [al l.1], rdL, fun l => l.1.length ≤ 1000000000, fun l => .c (.new 1 (rowsOn (bytesS l.1))), false, fun l => by simp [al, rdL]⟩
noncomputable def a_rPut : FnA := (fnA Try.prog Try.f89 1 [(3, [0, 3, 4, 1000003000000900003001]), (10, [0, 3, 4, 5, 6, 1000003000000900003001])]).getD ⟨0, .skip, [], []⟩
def s_rPut : Sp := spT []
theorem s_rPut_sound : s_rPut.sound Try.prog := spT_sound fun e he => by cases he
def F_rPut (l : List Int) (k : Int) (R : List (List D)) (n : Nat) : St := ⟨mkS 47 [(0, vr (rowsOn l)), (3, vo 900003 n), (4, vi k)], [(900003, ba 1 R)]⟩
def F_rPuti (l : List Int) (k v s : Int) (R : List (List D)) (n : Nat) : St := ⟨mkS 47 [(0, vr (rowsOn l)), (3, vo 900003 n), (4, vi k), (5, vi v), (6, vi s)], [(900003, ba 1 R)]⟩
set_option maxRecDepth 100000 in
theorem t_rPut (l : List Int) : a_rPut.start s_rPut 400 [al l] =
(FnA.at_ a_rPut 0 (F_rPut l (0 : Int) [] (0 : Nat))) := by kernel_rfl
set_option maxRecDepth 100000 in
theorem t_rPut0 (l : List Int) (k : Int) (R : List (List D)) (n : Nat) : a_rPut.round s_rPut 400 0 (F_rPut l k R n) =
(VC.br (decide (k < (↑(List.length (rowsOn l)) : Int)))
 (VC.need ((0 : Int) ≤ k ∧ k < (↑(List.length (rowsOn l)) : Int) ∧ List.length (rowAt (rowsOn l) (Int.toNat k)) = (1 : Nat))
 (VC.need (okSh [Kd.int IntKind.i64] (rowAt (rowsOn l) (Int.toNat k)))
 (VC.br (decide ((-1 : Int) ≤ asInt (List.getD (rowAt (rowsOn l) (Int.toNat k)) (0 : Nat) D.nilp)))
  (VC.br (decide (asInt (List.getD (rowAt (rowsOn l) (Int.toNat k)) (0 : Nat) D.nilp) ≤ (253 : Int)))
   (VC.need ((List.all [[D.int IntKind.u8 (IntKind.wrap IntKind.u8 (IntKind.wrap IntKind.i64 (asInt (List.getD (rowAt (rowsOn l) (Int.toNat k)) (0 : Nat) D.nilp) + (1 : Int))))]] fun r ↦ List.length r == (1 : Nat)) = true ∧ (List.all R fun r ↦ List.length r == (1 : Nat)) = true ∧ (List.length R + List.length [[D.int IntKind.u8 (IntKind.wrap IntKind.u8 (IntKind.wrap IntKind.i64 (asInt (List.getD (rowAt (rowsOn l) (Int.toNat k)) (0 : Nat) D.nilp) + (1 : Int))))]] + (100 : Nat)) * (2 : Nat) ≤ (70368744177664 : Nat))
   (FnA.at_ a_rPut 0 (F_rPut l (IntKind.wrap IntKind.i64 (k + (1 : Int))) (R ++ [[D.int IntKind.u8 (IntKind.wrap IntKind.u8 (IntKind.wrap IntKind.i64 (asInt (List.getD (rowAt (rowsOn l) (Int.toNat k)) (0 : Nat) D.nilp) + (1 : Int))))]]) (List.length R + List.length [[D.int IntKind.u8 (IntKind.wrap IntKind.u8 (IntKind.wrap IntKind.i64 (asInt (List.getD (rowAt (rowsOn l) (Int.toNat k)) (0 : Nat) D.nilp) + (1 : Int))))]]))))
   (VC.need ((List.all [[D.int IntKind.u8 (255 : Int)]] fun r ↦ List.length r == (1 : Nat)) = true ∧ (List.all R fun r ↦ List.length r == (1 : Nat)) = true ∧ (List.length R + (1 : Nat) + (100 : Nat)) * (2 : Nat) ≤ (70368744177664 : Nat))
   (FnA.at_ a_rPut 1 (F_rPuti l k (asInt (List.getD (rowAt (rowsOn l) (Int.toNat k)) (0 : Nat) D.nilp)) (7 : Int) (R ++ [[D.int IntKind.u8 (255 : Int)]]) (List.length R + (1 : Nat))))))
  (VC.need ((List.all [[D.int IntKind.u8 (255 : Int)]] fun r ↦ List.length r == (1 : Nat)) = true ∧ (List.all R fun r ↦ List.length r == (1 : Nat)) = true ∧ (List.length R + (1 : Nat) + (100 : Nat)) * (2 : Nat) ≤ (70368744177664 : Nat))
  (FnA.at_ a_rPut 1 (F_rPuti l k (asInt (List.getD (rowAt (rowsOn l) (Int.toNat k)) (0 : Nat) D.nilp)) (7 : Int) (R ++ [[D.int IntKind.u8 (255 : Int)]]) (List.length R + (1 : Nat))))))))
 (VC.ret (some (RR.c (Rc.new (1 : Nat) R))))) := by kernel_rfl
set_option maxRecDepth 100000 in
theorem t_rPut1 (l : List Int) (k v s : Int) (R : List (List D)) (n : Nat) : a_rPut.round s_rPut 400 1 (F_rPuti l k v s R n) =
(VC.br (decide ((0 : Int) ≤ s))
 (VC.need ((0 : Int) ≤ IntKind.wrap IntKind.u64 (IntKind.wrap IntKind.i64 ((8 : Int) * s)))
 (VC.need ((List.all [[D.int IntKind.u8 (IntKind.wrap IntKind.u8 (Int.fdiv (IntKind.wrap IntKind.u64 v) ((2 : Int) ^ min (Int.toNat (IntKind.wrap IntKind.u64 (IntKind.wrap IntKind.i64 ((8 : Int) * s)))) (64 : Nat))))]] fun r ↦ List.length r == (1 : Nat)) = true ∧ (List.all R fun r ↦ List.length r == (1 : Nat)) = true ∧ (List.length R + List.length [[D.int IntKind.u8 (IntKind.wrap IntKind.u8 (Int.fdiv (IntKind.wrap IntKind.u64 v) ((2 : Int) ^ min (Int.toNat (IntKind.wrap IntKind.u64 (IntKind.wrap IntKind.i64 ((8 : Int) * s)))) (64 : Nat))))]] + (100 : Nat)) * (2 : Nat) ≤ (70368744177664 : Nat))
 (FnA.at_ a_rPut 1 (F_rPuti l k v (IntKind.wrap IntKind.i64 (s - (1 : Int))) (R ++ [[D.int IntKind.u8 (IntKind.wrap IntKind.u8 (Int.fdiv (IntKind.wrap IntKind.u64 v) ((2 : Int) ^ min (Int.toNat (IntKind.wrap IntKind.u64 (IntKind.wrap IntKind.i64 ((8 : Int) * s)))) (64 : Nat))))]]) (List.length R + List.length [[D.int IntKind.u8 (IntKind.wrap IntKind.u8 (Int.fdiv (IntKind.wrap IntKind.u64 v) ((2 : Int) ^ min (Int.toNat (IntKind.wrap IntKind.u64 (IntKind.wrap IntKind.i64 ((8 : Int) * s)))) (64 : Nat))))]])))))
 (FnA.at_ a_rPut 0 (F_rPut l (IntKind.wrap IntKind.i64 (k + (1 : Int))) R n))) := by kernel_rfl
theorem l_rPut1 (l : List Int) (k v : Int) (Q : RR → Prop) (out : List By) (hl : l.length ≤ 1000000000) (hk : 0 ≤ k ∧ k < l.length) (ho : out.length ≤ 10000000000)
    (cont : ∀ R n, OnL R n out → (a_rPut.at_ 0 (F_rPut l (k + 1) R n)).holds s_rPut.cx a_rPut.rs Q) : ∀ (j : Nat) (s : Int) (R : List (List D)) (n : Nat) (acc : List By), j ≤ 8 → s = (j : Int) - 1 → OnL R n acc → acc ++ by8 v j = out → (a_rPut.at_ 1 (F_rPuti l k v s R n)).holds s_rPut.cx a_rPut.rs Q := by
  intro j
  induction j with
  | zero =>
    intro s R n acc _ hs h1 h2
    refine at_of_round s_rPut_sound (m := 400) ?_
    rw [t_rPut1, wrap_small (k + 1) (by omega) (by omega)]
    refine br_dec (fun h => by omega) (fun h => ?_)
    refine cont R n ?_
    rw [← h2]
    simpa [by8] using h1
  | succ j ih =>
    intro s R n acc hj hs h1 h2
    refine at_of_round s_rPut_sound (m := 400) ?_
    have hlen : acc.length + (j + 1) = out.length := by rw [← h2, List.length_append, by8_len]
    have e0 : IntKind.wrap .u64 (8 * s) = 8 * s := by
      have : IntKind.wrap .u64 (8 * s) = (8 * s) % 18446744073709551616 := rfl
      omega
    rw [t_rPut1, wrap_small (k + 1) (by omega) (by omega), wrap_small (s - 1) (by omega) (by omega), wrap_small (8 * s) (by omega) (by omega), e0]
    have e : min (Int.toNat (8 * s)) 64 = 8 * j := by omega
    rw [e]
    refine br_dec (fun h => ?_) (fun h => by omega)
    refine ⟨by omega, app_ok h1 rfl rfl (by simp only [List.length_cons, List.length_nil]; omega), ?_⟩
    refine ih (s - 1) _ _ _ (by omega) (by omega) (h1.snoc (⟨_⟩ : By)) ?_
    rw [← h2, List.append_assoc]
    rfl
theorem l_rPut0 (l : List Int) (hl : l.length ≤ 1000000000) : ∀ i : Int × List (List D) × Nat, (fun (i : Int × List (List D) × Nat) => 0 ≤ i.1 ∧ i.1 ≤ l.length ∧ OnL i.2.1 i.2.2 (bytesS (l.take i.1.toNat))) i → (a_rPut.at_ 0 ((fun (i : Int × List (List D) × Nat) => F_rPut l i.1 i.2.1 i.2.2) i)).holds s_rPut.cx a_rPut.rs (fun r => r.le (.c (.new 1 (rowsOn (bytesS l))))) := by
  refine loop_rule (a := a_rPut) (j := 0) (m := 400) s_rPut_sound (fun (i : Int × List (List D) × Nat) => F_rPut l i.1 i.2.1 i.2.2) (fun (i : Int × List (List D) × Nat) => 0 ≤ i.1 ∧ i.1 ≤ l.length ∧ OnL i.2.1 i.2.2 (bytesS (l.take i.1.toNat))) (fun (i : Int × List (List D) × Nat) => ((l.length : Int) - i.1).toNat) ?_
  rintro ⟨k, R, n⟩ h_inv ih
  try dsimp only at h_inv
  replace ih := fun (v0 : Int) (v1 : List (List D)) (v2 : Nat) => ih (v0, v1, v2)
  try dsimp only at ih
  show VC.holds _ _ _ (a_rPut.round s_rPut 400 0 (F_rPut l k R n))
  rw [t_rPut0]
  try simp only [asRows_sl, asInt_int, asBool_bool, asStr_str, listOf_rowsOn, List.drop_zero, Prg.eta, Sta.eta, rowsOn_length, getD_drop, Nat.reduceAdd, rd_int, rd_PMem_name, rd_PMem_secret, rd_PMem_n, rd_PLabel_name, rd_PLabel_at_, rd_Ins_kind, rd_Ins_op, rd_Ins_d, rd_Ins_aR, rd_Ins_aN, rd_Ins_bR, rd_Ins_bN, rd_Ins_name, rd_Ins_target, rd_Ent_pc, rd_Ent_val, rd_Ent_addr, rd_Ent_fro, rd_Ent_next, rd_Ent_done, rd_Ent_known, rd_Ent_fault, rd_Place_reg, rd_Place_n, rd_Place_secret, rd_Obs_kind, rd_Obs_at_, rd_Dir_kind, rd_Dir_n]
  obtain ⟨h0, h1, h2⟩ := h_inv
  have w1 : IntKind.wrap .i64 (k + 1) = k + 1 := wrap_small _ (by omega) (by omega)
  have hb := bytesS_take_len l k.toNat hl
  try rw [w1]
  repeat' first
    | refine br_not ?_
    | refine br_dec (fun _ => ?_) (fun _ => ?_)
    | refine br_beq (fun _ => ?_) (fun _ => ?_)
    | refine br_bne (fun _ => ?_) (fun _ => ?_)
    | refine br_holds (fun _ => ?_) (fun _ => ?_)
    | refine ⟨PreOk.mk ?_ rfl, ?_⟩
    | refine ⟨idx_ok _ _ _ rfl (by omega) (by omega), ?_⟩
    | refine ⟨okSh_ok _ _ _ (fun _ => rfl) (by omega) (by omega), ?_⟩
    | refine ⟨okSh_okD _ _ _ _ (fun _ => rfl) (by omega) (by omega), ?_⟩
    | refine ⟨aload_ok _ _ rfl (fun _ => rfl) (by omega) (by omega), ?_⟩
    | refine ⟨aload_okD _ _ _ rfl (fun _ => rfl) (by omega) (by omega), ?_⟩
    | refine ⟨astore_ok (by assumption) rfl (by omega) (by omega) (by decide), ?_⟩
    | refine ⟨app_ok (by assumption) rfl rfl (by simp only [List.length_cons, List.length_nil]; omega), ?_⟩
    | refine need_holds ?_ fun _ => ?_
    | refine all_holds fun y hy => ?_
    | refine ret_le ?_
  · rename_i hk _ _
    refine ih _ _ _ ⟨by omega, by omega, ?_⟩ (by omega)
    rw [take_rd l k h0 hk, bytesS_snoc]
    have e : bytes1 (rd l k) = [⟨IntKind.wrap .u8 (IntKind.wrap .i64 (rd l k + 1))⟩] := by unfold bytes1; rw [if_pos ⟨‹_›, ‹_›⟩]
    rw [e]
    exact h2.snoc (⟨_⟩ : By)
  · rename_i hk _ _
    have e : bytes1 (rd l k) = ⟨255⟩ :: by8 (rd l k) 8 := by unfold bytes1; rw [if_neg (by omega)]
    have hb' := bytesS_take_len l (k + 1).toNat hl
    refine l_rPut1 l k (rd l k) _ (bytesS (l.take (k + 1).toNat)) hl ⟨h0, hk⟩ (by omega) (fun R n h => ih _ _ _ ⟨by omega, by omega, h⟩ (by omega)) 8 7 _ _ _ (by omega) (by omega) (h2.snoc (⟨255⟩ : By)) ?_
    rw [take_rd l k h0 hk, bytesS_snoc, e]
    simp
  · rename_i hk _
    have e : bytes1 (rd l k) = ⟨255⟩ :: by8 (rd l k) 8 := by unfold bytes1; rw [if_neg (by omega)]
    have hb' := bytesS_take_len l (k + 1).toNat hl
    refine l_rPut1 l k (rd l k) _ (bytesS (l.take (k + 1).toNat)) hl ⟨h0, hk⟩ (by omega) (fun R n h => ih _ _ _ ⟨by omega, by omega, h⟩ (by omega)) 8 7 _ _ _ (by omega) (by omega) (h2.snoc (⟨255⟩ : By)) ?_
    rw [take_rd l k h0 hk, bytesS_snoc, e]
    simp
  · have hk : k.toNat = l.length := by omega
    rw [hk, List.take_length] at h2
    rw [h2.1]
    exact RR.le_refl _
theorem c_rPut_good : c_rPut.fe.Good Try.prog := by
  refine FT.good c_rPut ⟨Try.f89, by kernel_rfl, by decide +kernel, by kernel_rfl⟩ (fun ⟨l, u⟩ => by first | rfl | simp [c_rPut, rrRef, rss, rnewI, rnewE, rstab, rplaces, ri, rb, rib, rnum, rby, Sta.fresh]) fun ⟨l, u⟩ hp => ?_
  refine acalls_le s_rPut_sound (fn := Try.f89) (a := a_rPut) (nargs := 1) (tbl := [(3, [0, 3, 4, 1000003000000900003001]), (10, [0, 3, 4, 5, 6, 1000003000000900003001])]) (by kernel_rfl) (by kernel_rfl) rfl (m := 400) ?_
  show VC.holds _ _ _ (a_rPut.start s_rPut 400 [al l])
  rw [t_rPut]
  try simp only [asRows_sl, asInt_int, asBool_bool, asStr_str, listOf_rowsOn, List.drop_zero, Prg.eta, Sta.eta, rowsOn_length, getD_drop, Nat.reduceAdd, rd_int, rd_PMem_name, rd_PMem_secret, rd_PMem_n, rd_PLabel_name, rd_PLabel_at_, rd_Ins_kind, rd_Ins_op, rd_Ins_d, rd_Ins_aR, rd_Ins_aN, rd_Ins_bR, rd_Ins_bN, rd_Ins_name, rd_Ins_target, rd_Ent_pc, rd_Ent_val, rd_Ent_addr, rd_Ent_fro, rd_Ent_next, rd_Ent_done, rd_Ent_known, rd_Ent_fault, rd_Place_reg, rd_Place_n, rd_Place_secret, rd_Obs_kind, rd_Obs_at_, rd_Dir_kind, rd_Dir_n]
  try simp only [c_rPut] at hp
  repeat' first
    | refine br_not ?_
    | refine br_dec (fun _ => ?_) (fun _ => ?_)
    | refine br_beq (fun _ => ?_) (fun _ => ?_)
    | refine br_bne (fun _ => ?_) (fun _ => ?_)
    | refine br_holds (fun _ => ?_) (fun _ => ?_)
    | refine ⟨PreOk.mk ?_ rfl, ?_⟩
    | refine ⟨idx_ok _ _ _ rfl (by omega) (by omega), ?_⟩
    | refine ⟨okSh_ok _ _ _ (fun _ => rfl) (by omega) (by omega), ?_⟩
    | refine ⟨okSh_okD _ _ _ _ (fun _ => rfl) (by omega) (by omega), ?_⟩
    | refine ⟨aload_ok _ _ rfl (fun _ => rfl) (by omega) (by omega), ?_⟩
    | refine ⟨aload_okD _ _ _ rfl (fun _ => rfl) (by omega) (by omega), ?_⟩
    | refine ⟨astore_ok (by assumption) rfl (by omega) (by omega) (by decide), ?_⟩
    | refine ⟨app_ok (by assumption) rfl rfl (by simp only [List.length_cons, List.length_nil]; omega), ?_⟩
    | refine need_holds ?_ fun _ => ?_
    | refine all_holds fun y hy => ?_
    | refine ret_le ?_
  exact l_rPut0 l hp (0, [], 0) ⟨by simp, by simp, by simpa [bytesS] using OnL.nil⟩
def c_rSameI : FT (List Int × List Int) := ⟨99, fun x => [al x.1, al x.2], rdLL, fun x => x.1.length ≤ 1000000000, fun x => rb (decide (x.1 = x.2)), false, fun x => by simp [al, rdLL]⟩
noncomputable def a_rSameI : FnA := (fnA Try.prog Try.f99 2 [(4, [0, 1, 5])]).getD ⟨0, .skip, [], []⟩
def s_rSameI : Sp := spT []
theorem s_rSameI_sound : s_rSameI.sound Try.prog := spT_sound fun e he => by cases he
def F_rSameI (a b : List Int) (k : Int) : St := ⟨mkS 26 [(0, vr (rowsOn a)), (1, vr (rowsOn b)), (5, vi k)], []⟩
set_option maxRecDepth 100000 in
theorem t_rSameI (a b : List Int) : a_rSameI.start s_rSameI 400 [al a, al b] =
(VC.br ((↑(List.length (rowsOn a)) : Int) != (↑(List.length (rowsOn b)) : Int))
 (VC.ret (some (RR.c (Rc.d (D.bool false)))))
 (FnA.at_ a_rSameI 0 (F_rSameI a b (0 : Int)))) := by kernel_rfl
set_option maxRecDepth 100000 in
theorem t_rSameI0 (a b : List Int) (k : Int) : a_rSameI.round s_rSameI 400 0 (F_rSameI a b k) =
(VC.br (decide (k < (↑(List.length (rowsOn a)) : Int)))
 (VC.need ((0 : Int) ≤ k ∧ k < (↑(List.length (rowsOn a)) : Int) ∧ List.length (rowAt (rowsOn a) (Int.toNat k)) = (1 : Nat))
 (VC.need (okSh [Kd.int IntKind.i64] (rowAt (rowsOn a) (Int.toNat k)))
 (VC.need ((0 : Int) ≤ k ∧ k < (↑(List.length (rowsOn b)) : Int) ∧ List.length (rowAt (rowsOn b) (Int.toNat k)) = (1 : Nat))
 (VC.need (okSh [Kd.int IntKind.i64] (rowAt (rowsOn b) (Int.toNat k)))
 (VC.br (asInt (List.getD (rowAt (rowsOn a) (Int.toNat k)) (0 : Nat) D.nilp) != asInt (List.getD (rowAt (rowsOn b) (Int.toNat k)) (0 : Nat) D.nilp))
  (VC.ret (some (RR.c (Rc.d (D.bool false)))))
  (FnA.at_ a_rSameI 0 (F_rSameI a b (IntKind.wrap IntKind.i64 (k + (1 : Int))))))))))
 (VC.ret (some (RR.c (Rc.d (D.bool true)))))) := by kernel_rfl
theorem eq_dropG {α : Type} [Row α] {a b : List α} {k : Int} (hl : a.length = b.length) (h0 : 0 ≤ k) (h1 : k < a.length) : (a.drop k.toNat = b.drop k.toNat) ↔ rd a k = rd b k ∧ a.drop (k + 1).toNat = b.drop (k + 1).toNat := by
  rw [drop_rd a k h0 h1, drop_rd b k h0 (by omega)]
  simp
theorem l_rSameI0 (a b : List Int) (res : Bool) (hl : a.length = b.length) (hb : a.length ≤ 1000000000) : ∀ i : Int, (fun (i : Int) => 0 ≤ i ∧ i ≤ a.length ∧ decide (a.drop i.toNat = b.drop i.toNat) = res) i → (a_rSameI.at_ 0 ((fun (i : Int) => F_rSameI a b i) i)).holds s_rSameI.cx a_rSameI.rs (fun r => r.le (rb res)) := by
  refine loop_rule (a := a_rSameI) (j := 0) (m := 400) s_rSameI_sound (fun (i : Int) => F_rSameI a b i) (fun (i : Int) => 0 ≤ i ∧ i ≤ a.length ∧ decide (a.drop i.toNat = b.drop i.toNat) = res) (fun (i : Int) => ((a.length : Int) - i).toNat) ?_
  rintro k h_inv ih
  try dsimp only at h_inv
  show VC.holds _ _ _ (a_rSameI.round s_rSameI 400 0 (F_rSameI a b k))
  rw [t_rSameI0]
  try simp only [asRows_sl, asInt_int, asBool_bool, asStr_str, listOf_rowsOn, List.drop_zero, Prg.eta, Sta.eta, rowsOn_length, getD_drop, Nat.reduceAdd, rd_int, rd_PMem_name, rd_PMem_secret, rd_PMem_n, rd_PLabel_name, rd_PLabel_at_, rd_Ins_kind, rd_Ins_op, rd_Ins_d, rd_Ins_aR, rd_Ins_aN, rd_Ins_bR, rd_Ins_bN, rd_Ins_name, rd_Ins_target, rd_Ent_pc, rd_Ent_val, rd_Ent_addr, rd_Ent_fro, rd_Ent_next, rd_Ent_done, rd_Ent_known, rd_Ent_fault, rd_Place_reg, rd_Place_n, rd_Place_secret, rd_Obs_kind, rd_Obs_at_, rd_Dir_kind, rd_Dir_n]
  obtain ⟨h0, h1, h2⟩ := h_inv
  have w1 : IntKind.wrap .i64 (k + 1) = k + 1 := wrap_small _ (by omega) (by omega)
  rw [w1]
  repeat' first
    | refine br_not ?_
    | refine br_dec (fun _ => ?_) (fun _ => ?_)
    | refine br_beq (fun _ => ?_) (fun _ => ?_)
    | refine br_bne (fun _ => ?_) (fun _ => ?_)
    | refine br_holds (fun _ => ?_) (fun _ => ?_)
    | refine ⟨PreOk.mk ?_ rfl, ?_⟩
    | refine ⟨idx_ok _ _ _ rfl (by omega) (by omega), ?_⟩
    | refine ⟨okSh_ok _ _ _ (fun _ => rfl) (by omega) (by omega), ?_⟩
    | refine ⟨okSh_okD _ _ _ _ (fun _ => rfl) (by omega) (by omega), ?_⟩
    | refine ⟨aload_ok _ _ rfl (fun _ => rfl) (by omega) (by omega), ?_⟩
    | refine ⟨aload_okD _ _ _ rfl (fun _ => rfl) (by omega) (by omega), ?_⟩
    | refine ⟨astore_ok (by assumption) rfl (by omega) (by omega) (by decide), ?_⟩
    | refine ⟨app_ok (by assumption) rfl rfl (by simp only [List.length_cons, List.length_nil]; omega), ?_⟩
    | refine need_holds ?_ fun _ => ?_
    | refine all_holds fun y hy => ?_
    | refine ret_le ?_
    | refine ih _ ?_ ?_
  all_goals try omega
  · refine ⟨by omega, by omega, ?_⟩
    rw [← h2]
    exact decide_eq_decide.2 ⟨fun h => (eq_dropG hl h0 ‹_›).2 ⟨‹_›, h⟩, fun h => ((eq_dropG hl h0 ‹_›).1 h).2⟩
  · refine rb_le ?_
    rw [← h2]
    exact (decide_eq_false fun h => absurd ((eq_dropG hl h0 ‹_›).1 h).1 ‹_›).symm
  · refine rb_le ?_
    have hk : k.toNat = a.length := by omega
    rw [← h2, hk, List.drop_length, hl, List.drop_length]
    rfl
theorem c_rSameI_good : c_rSameI.fe.Good Try.prog := by
  refine FT.good c_rSameI ⟨Try.f99, by kernel_rfl, by decide +kernel, by kernel_rfl⟩ (fun ⟨a, b⟩ => by first | rfl | simp [c_rSameI, rrRef, rss, rnewI, rnewE, rstab, rplaces, ri, rb, rib, rnum, rby, Sta.fresh]) fun ⟨a, b⟩ hp => ?_
  refine acalls_le s_rSameI_sound (fn := Try.f99) (a := a_rSameI) (nargs := 2) (tbl := [(4, [0, 1, 5])]) (by kernel_rfl) (by kernel_rfl) rfl (m := 400) ?_
  show VC.holds _ _ _ (a_rSameI.start s_rSameI 400 [al a, al b])
  rw [t_rSameI]
  try simp only [asRows_sl, asInt_int, asBool_bool, asStr_str, listOf_rowsOn, List.drop_zero, Prg.eta, Sta.eta, rowsOn_length, getD_drop, Nat.reduceAdd, rd_int, rd_PMem_name, rd_PMem_secret, rd_PMem_n, rd_PLabel_name, rd_PLabel_at_, rd_Ins_kind, rd_Ins_op, rd_Ins_d, rd_Ins_aR, rd_Ins_aN, rd_Ins_bR, rd_Ins_bN, rd_Ins_name, rd_Ins_target, rd_Ent_pc, rd_Ent_val, rd_Ent_addr, rd_Ent_fro, rd_Ent_next, rd_Ent_done, rd_Ent_known, rd_Ent_fault, rd_Place_reg, rd_Place_n, rd_Place_secret, rd_Obs_kind, rd_Obs_at_, rd_Dir_kind, rd_Dir_n]
  try simp only [c_rSameI] at hp
  repeat' first
    | refine br_not ?_
    | refine br_dec (fun _ => ?_) (fun _ => ?_)
    | refine br_beq (fun _ => ?_) (fun _ => ?_)
    | refine br_bne (fun _ => ?_) (fun _ => ?_)
    | refine br_holds (fun _ => ?_) (fun _ => ?_)
    | refine ⟨PreOk.mk ?_ rfl, ?_⟩
    | refine ⟨idx_ok _ _ _ rfl (by omega) (by omega), ?_⟩
    | refine ⟨okSh_ok _ _ _ (fun _ => rfl) (by omega) (by omega), ?_⟩
    | refine ⟨okSh_okD _ _ _ _ (fun _ => rfl) (by omega) (by omega), ?_⟩
    | refine ⟨aload_ok _ _ rfl (fun _ => rfl) (by omega) (by omega), ?_⟩
    | refine ⟨aload_okD _ _ _ rfl (fun _ => rfl) (by omega) (by omega), ?_⟩
    | refine ⟨astore_ok (by assumption) rfl (by omega) (by omega) (by decide), ?_⟩
    | refine ⟨app_ok (by assumption) rfl rfl (by simp only [List.length_cons, List.length_nil]; omega), ?_⟩
    | refine need_holds ?_ fun _ => ?_
    | refine all_holds fun y hy => ?_
    | refine ret_le ?_
  · have e : c_rSameI.ans (a, b) = rb (decide (a = b)) := rfl
    rw [e]
    exact l_rSameI0 a b _ (by omega) hp 0 ⟨by omega, by omega, by simp⟩
  · exact rb_le (decide_eq_false fun h => by have h : a = b := h; subst h; omega).symm
end Go.Proofs.Ytclabjihjopclaa.Ax
