/- Places: what arch's and the reference's functions come to. -/
import Derived.Test.YtclabjihjopclaaF3
namespace Go.Proofs.Ytclabjihjopclaa.Ax
open Go.RowKit
set_option linter.unusedVariables false
set_option linter.unusedSimpArgs false
def regFrom (p : Prg) (i : Int) : List Place :=
  if i ≤ 0 then regPlaces p else if i = 1 then regPlace p.r1 1 ++ (regPlace p.r2 2 ++ regPlace p.r3 3) else if i = 2 then regPlace p.r2 2 ++ regPlace p.r3 3 else if i = 3 then regPlace p.r3 3 else []
theorem regFrom0 (p : Prg) : regFrom p 0 = regPlace p.r0 0 ++ regFrom p 1 := by simp [regFrom, regPlaces, List.append_assoc]
theorem regFrom1 (p : Prg) : regFrom p 1 = regPlace p.r1 1 ++ regFrom p 2 := by simp [regFrom]
theorem regFrom2 (p : Prg) : regFrom p 2 = regPlace p.r2 2 ++ regFrom p 3 := by simp [regFrom]
theorem regFrom3 (p : Prg) : regFrom p 3 = regPlace p.r3 3 ++ regFrom p 4 := by simp [regFrom]
theorem regFrom4 (p : Prg) : regFrom p 4 = [] := by simp [regFrom]
theorem regPlace_ne {n : Int} (h : ¬ n = 0) (r : Int) : regPlace n r = [⟨true, r, n == 2⟩] := by
  unfold regPlace
  rw [if_neg h]
  by_cases h2 : n = 2 <;> simp [h2]
theorem regPlace_eq {n : Int} (h : n = 0) (r : Int) : regPlace n r = [] := if_pos h
theorem memPlace_succ {n at_ : Int} (s : Bool) (h : 0 < n) : memPlace n at_ s = ⟨false, at_, s⟩ :: memPlace (n - 1) (at_ + 1) s := by
  unfold memPlace
  have : n.toNat = (n - 1).toNat + 1 := by omega
  rw [this, List.range_succ_eq_map, List.map_cons, List.map_map]
  congr 1
  · simp
  · refine List.map_congr_left fun k _ => ?_
    simp only [Function.comp, Place.mk.injEq, and_true, true_and]
    omega
theorem memPlace_zero {n at_ : Int} (s : Bool) (h : n ≤ 0) : memPlace n at_ s = [] := by
  unfold memPlace
  have : n.toNat = 0 := by omega
  rw [this]; rfl
theorem memPlaces_drop (ms : List PMem) (k at_ : Int) (h0 : 0 ≤ k) (h : k < ms.length) : memPlaces (ms.drop k.toNat) at_ = memPlace (rd ms k).n at_ (rd ms k).secret ++ memPlaces (ms.drop (k + 1).toNat) (at_ + (rd ms k).n) := by
  rw [drop_rd ms k h0 h]; rfl
def rplaces (l : List Place) : RR := .c (.new 3 (rowsOn l))
def c_aPlaces : FT Prg := ⟨84, fun p => [ap p], rdP1, fun p => Mems p.mems, fun p => rplaces (placesS p), false, fun p => by simp [ap, rdP1]⟩
noncomputable def a_aPlaces : FnA := (fnA Try.prog Try.f84 1 [(3, [1, 3, 10, 11, 1000003000000900001003]), (10, [3, 6, 26, 27, 28, 1000003000000900001003]), (13, [3, 6, 8, 26, 27, 28, 35, 36, 1000003000000900001003])]).getD ⟨0, .skip, [], []⟩
def s_aPlaces : Sp := spT []
theorem s_aPlaces_sound : s_aPlaces.sound Try.prog := spT_sound fun e he => by cases he
def F_aPl0 (p : Prg) (i : Int) (R : List (List D)) (n : Nat) : St := ⟨mkS 50 [(1, vp 64), (3, vo 900001 n), (10, .agg [.d (.int .i64 p.r0), .d (.int .i64 p.r1), .d (.int .i64 p.r2), .d (.int .i64 p.r3)]), (11, vi i)], [(64, bx p.cells), (900001, ba 3 R)]⟩
def F_aPl1 (ms : List PMem) (at_ k : Int) (R : List (List D)) (n : Nat) : St := ⟨mkS 50 [(3, vo 900001 n), (6, vi at_), (26, vr (rowsOn ms)), (27, vi (rowsOn ms).length), (28, vi k)], [(900001, ba 3 R)]⟩
def F_aPl2 (ms : List PMem) (k : Int) (nm : ByteArray) (sec : Bool) (mn b : Int) (at_ j : Int) (R : List (List D)) (n : Nat) : St := ⟨mkS 50 [(3, vo 900001 n), (6, vi at_), (8, vp 512), (26, vr (rowsOn ms)), (27, vi (rowsOn ms).length), (28, vi k), (35, vi b), (36, vi j)], [(512, bx [.str nm, .bool sec, .int .i64 mn]), (900001, ba 3 R)]⟩
set_option maxRecDepth 100000 in
theorem t_aPlaces (p : Prg) : a_aPlaces.start s_aPlaces 400 [ap p] =
(FnA.at_ a_aPlaces 0 (F_aPl0 p (0 : Int) [] (0 : Nat))) := by kernel_rfl
set_option maxRecDepth 100000 in
theorem t_aPl0 (p : Prg) (i : Int) (R : List (List D)) (n : Nat) : a_aPlaces.round s_aPlaces 400 0 (F_aPl0 p i R n) =
(VC.br (decide (i < (4 : Int)))
 (VC.br (decide (i = (0 : Int)))
  (VC.br (p.r0 != (0 : Int))
   (VC.need ((List.all [[D.bool true, D.int IntKind.i64 i, D.bool (p.r0 == (2 : Int))]] fun r ↦ List.length r == (3 : Nat)) = true ∧ (List.all R fun r ↦ List.length r == (3 : Nat)) = true ∧ (List.length R + List.length [[D.bool true, D.int IntKind.i64 i, D.bool (p.r0 == (2 : Int))]] + (100 : Nat)) * (25 : Nat) ≤ (70368744177664 : Nat))
   (FnA.at_ a_aPlaces 0 (F_aPl0 p (IntKind.wrap IntKind.i64 (i + (1 : Int))) (R ++ [[D.bool true, D.int IntKind.i64 i, D.bool (p.r0 == (2 : Int))]]) (List.length R + List.length [[D.bool true, D.int IntKind.i64 i, D.bool (p.r0 == (2 : Int))]]))))
   (FnA.at_ a_aPlaces 0 (F_aPl0 p (IntKind.wrap IntKind.i64 (i + (1 : Int))) R n)))
  (VC.br (decide (i = (1 : Int)))
   (VC.br (p.r1 != (0 : Int))
    (VC.need ((List.all [[D.bool true, D.int IntKind.i64 i, D.bool (p.r1 == (2 : Int))]] fun r ↦ List.length r == (3 : Nat)) = true ∧ (List.all R fun r ↦ List.length r == (3 : Nat)) = true ∧ (List.length R + List.length [[D.bool true, D.int IntKind.i64 i, D.bool (p.r1 == (2 : Int))]] + (100 : Nat)) * (25 : Nat) ≤ (70368744177664 : Nat))
    (FnA.at_ a_aPlaces 0 (F_aPl0 p (IntKind.wrap IntKind.i64 (i + (1 : Int))) (R ++ [[D.bool true, D.int IntKind.i64 i, D.bool (p.r1 == (2 : Int))]]) (List.length R + List.length [[D.bool true, D.int IntKind.i64 i, D.bool (p.r1 == (2 : Int))]]))))
    (FnA.at_ a_aPlaces 0 (F_aPl0 p (IntKind.wrap IntKind.i64 (i + (1 : Int))) R n)))
   (VC.br (decide (i = (2 : Int)))
    (VC.br (p.r2 != (0 : Int))
     (VC.need ((List.all [[D.bool true, D.int IntKind.i64 i, D.bool (p.r2 == (2 : Int))]] fun r ↦ List.length r == (3 : Nat)) = true ∧ (List.all R fun r ↦ List.length r == (3 : Nat)) = true ∧ (List.length R + List.length [[D.bool true, D.int IntKind.i64 i, D.bool (p.r2 == (2 : Int))]] + (100 : Nat)) * (25 : Nat) ≤ (70368744177664 : Nat))
     (FnA.at_ a_aPlaces 0 (F_aPl0 p (IntKind.wrap IntKind.i64 (i + (1 : Int))) (R ++ [[D.bool true, D.int IntKind.i64 i, D.bool (p.r2 == (2 : Int))]]) (List.length R + List.length [[D.bool true, D.int IntKind.i64 i, D.bool (p.r2 == (2 : Int))]]))))
     (FnA.at_ a_aPlaces 0 (F_aPl0 p (IntKind.wrap IntKind.i64 (i + (1 : Int))) R n)))
    (VC.br (decide (i = (3 : Int)))
     (VC.br (p.r3 != (0 : Int))
      (VC.need ((List.all [[D.bool true, D.int IntKind.i64 i, D.bool (p.r3 == (2 : Int))]] fun r ↦ List.length r == (3 : Nat)) = true ∧ (List.all R fun r ↦ List.length r == (3 : Nat)) = true ∧ (List.length R + List.length [[D.bool true, D.int IntKind.i64 i, D.bool (p.r3 == (2 : Int))]] + (100 : Nat)) * (25 : Nat) ≤ (70368744177664 : Nat))
      (FnA.at_ a_aPlaces 0 (F_aPl0 p (IntKind.wrap IntKind.i64 (i + (1 : Int))) (R ++ [[D.bool true, D.int IntKind.i64 i, D.bool (p.r3 == (2 : Int))]]) (List.length R + List.length [[D.bool true, D.int IntKind.i64 i, D.bool (p.r3 == (2 : Int))]]))))
      (FnA.at_ a_aPlaces 0 (F_aPl0 p (IntKind.wrap IntKind.i64 (i + (1 : Int))) R n)))
     VC.ff))))
 (FnA.at_ a_aPlaces 1 (F_aPl1 p.mems (0 : Int) (0 : Int) R n))) := by kernel_rfl
set_option maxRecDepth 100000 in
theorem t_aPl1 (ms : List PMem) (at_ k : Int) (R : List (List D)) (n : Nat) : a_aPlaces.round s_aPlaces 400 1 (F_aPl1 ms at_ k R n) =
(VC.br (decide (k < (↑(List.length (rowsOn ms)) : Int)))
 (VC.need ((0 : Int) ≤ k ∧ k < (↑(List.length (rowsOn ms)) : Int) ∧ List.length (rowAt (rowsOn ms) (Int.toNat k)) = (3 : Nat))
 (VC.need (okSh [Kd.str, Kd.bool, Kd.int IntKind.i64] (rowAt (rowsOn ms) (Int.toNat k)))
 (FnA.at_ a_aPlaces 2 (F_aPl2 ms k (asStr (List.getD (rowAt (rowsOn ms) (Int.toNat k)) (0 : Nat) D.nilp)) (asBool (List.getD (rowAt (rowsOn ms) (Int.toNat k)) (1 : Nat) D.nilp)) (asInt (List.getD (rowAt (rowsOn ms) (Int.toNat k)) (2 : Nat) D.nilp)) (min (max (asInt (List.getD (rowAt (rowsOn ms) (Int.toNat k)) (2 : Nat) D.nilp)) (0 : Int)) (16 : Int)) at_ (0 : Int) R n))))
 (VC.ret (some (RR.c (Rc.new (3 : Nat) R))))) := by kernel_rfl
set_option maxRecDepth 100000 in
theorem t_aPl2 (ms : List PMem) (k : Int) (nm : ByteArray) (sec : Bool) (mn b : Int) (at_ j : Int) (R : List (List D)) (n : Nat) : a_aPlaces.round s_aPlaces 400 2 (F_aPl2 ms k nm sec mn b at_ j R n) =
(VC.br (decide (j < b))
 (VC.need ((List.all [[D.bool false, D.int IntKind.i64 at_, D.bool sec]] fun r ↦ List.length r == (3 : Nat)) = true ∧ (List.all R fun r ↦ List.length r == (3 : Nat)) = true ∧ (List.length R + List.length [[D.bool false, D.int IntKind.i64 at_, D.bool sec]] + (100 : Nat)) * (25 : Nat) ≤ (70368744177664 : Nat))
 (FnA.at_ a_aPlaces 2 (F_aPl2 ms k nm sec mn b (IntKind.wrap IntKind.i64 (at_ + (1 : Int))) (IntKind.wrap IntKind.i64 (j + (1 : Int))) (R ++ [[D.bool false, D.int IntKind.i64 at_, D.bool sec]]) (List.length R + List.length [[D.bool false, D.int IntKind.i64 at_, D.bool sec]]))))
 (FnA.at_ a_aPlaces 1 (F_aPl1 ms at_ (IntKind.wrap IntKind.i64 (k + (1 : Int))) R n))) := by kernel_rfl
theorem l_aPl2 (ms : List PMem) (k : Int) (nm : ByteArray) (sec : Bool) (mn b : Int) (Q : RR → Prop) (tot : List Place) (hk : 0 ≤ k ∧ k < ms.length ∧ ms.length ≤ 100) (hb : b ≤ 16)
    (hnext : ∀ at_ R n l, OnL R n l → l ++ memPlaces (ms.drop (k + 1).toNat) at_ = tot → 0 ≤ at_ → at_ ≤ 16 * (k + 1) → l.length ≤ 16 * (k + 2) → (a_aPlaces.at_ 1 (F_aPl1 ms at_ (k + 1) R n)).holds s_aPlaces.cx a_aPlaces.rs Q) :
    ∀ at_ j R n l, OnL R n l → l ++ (memPlace (b - j) at_ sec ++ memPlaces (ms.drop (k + 1).toNat) (at_ + (b - j))) = tot → 0 ≤ j → j ≤ b → 0 ≤ at_ → at_ ≤ 16 * k + j → l.length ≤ 16 * (k + 1) + j →
      (a_aPlaces.at_ 2 (F_aPl2 ms k nm sec mn b at_ j R n)).holds s_aPlaces.cx a_aPlaces.rs Q := by
  have key := loop_rule (a := a_aPlaces) (j := 2) (m := 400) (R := Q) s_aPlaces_sound (fun (i : Int × Int × List (List D) × Nat × List Place) => F_aPl2 ms k nm sec mn b i.1 i.2.1 i.2.2.1 i.2.2.2.1)
    (fun i => OnL i.2.2.1 i.2.2.2.1 i.2.2.2.2 ∧ i.2.2.2.2 ++ (memPlace (b - i.2.1) i.1 sec ++ memPlaces (ms.drop (k + 1).toNat) (i.1 + (b - i.2.1))) = tot ∧ 0 ≤ i.2.1 ∧ i.2.1 ≤ b ∧ 0 ≤ i.1 ∧ i.1 ≤ 16 * k + i.2.1 ∧ i.2.2.2.2.length ≤ 16 * (k + 1) + i.2.1) (fun i => (b - i.2.1).toNat) ?_
  · exact fun at_ j R n l h1 h2 h3 h4 h5 h6 h7 => key (at_, j, R, n, l) ⟨h1, h2, h3, h4, h5, h6, h7⟩
  rintro ⟨at_, j, R, n, l⟩ ⟨h1, h2, h3, h4, h5, h6, h7⟩ ih
  replace ih := fun v0 v1 v2 v3 v4 => ih (v0, v1, v2, v3, v4)
  dsimp only at h1 h2 h3 h4 h5 h6 h7 ih
  show VC.holds _ _ _ (a_aPlaces.round s_aPlaces 400 2 (F_aPl2 ms k nm sec mn b at_ j R n))
  rw [t_aPl2]
  have w1 : IntKind.wrap .i64 (k + 1) = k + 1 := wrap_small _ (by omega) (by omega)
  have w2 : IntKind.wrap .i64 (j + 1) = j + 1 := wrap_small _ (by omega) (by omega)
  have w3 : IntKind.wrap .i64 (at_ + 1) = at_ + 1 := wrap_small _ (by omega) (by omega)
  rw [w1, w2, w3]
  repeat' first
    | refine br_not ?_
    | refine br_dec (fun _ => ?_) (fun _ => ?_)
    | refine br_beq (fun _ => ?_) (fun _ => ?_)
    | refine br_bne (fun _ => ?_) (fun _ => ?_)
    | refine br_holds (fun _ => ?_) (fun _ => ?_)
    | refine ⟨PreOk.mk ?_ rfl, ?_⟩
    | refine ⟨idx_ok _ _ _ rfl (by omega) (by omega), ?_⟩
    | refine ⟨okSh_ok _ _ _ (fun _ => rfl) (by omega) (by omega), ?_⟩
    | refine ⟨okSh_okD _ _ _ _ (fun _ => rfl) (by omega) (by omega), ?_⟩
    | refine ⟨aload_ok _ _ rfl (fun _ => rfl) (by omega) (by omega), ?_⟩
    | refine ⟨aload_okD _ _ _ rfl (fun _ => rfl) (by omega) (by omega), ?_⟩
    | refine ⟨astore_ok (by assumption) rfl (by omega) (by omega) (by decide), ?_⟩
    | refine ⟨app_ok (by assumption) rfl rfl (by simp only [List.length_cons, List.length_nil]; omega), ?_⟩
    | refine need_holds ?_ fun _ => ?_
    | refine all_holds fun y hy => ?_
    | refine ret_eq ?_
  · have hj : j < b := by assumption
    refine ih _ _ _ _ (l ++ [⟨false, at_, sec⟩]) ⟨OnL.snoc h1 (⟨false, at_, sec⟩ : Place), ?_, by omega, by omega, by omega, by omega, ?_⟩ (by omega)
    · rw [memPlace_succ sec (by omega)] at h2
      rw [List.append_assoc, show b - (j + 1) = b - j - 1 by omega, show at_ + 1 + (b - j - 1) = at_ + (b - j) by omega]
      simpa using h2
    · simp; omega
  · have hj : j = b := by omega
    subst hj
    rw [memPlace_zero sec (by omega), List.nil_append, Int.sub_self, Int.add_zero] at h2
    exact hnext _ _ _ l h1 h2 (by omega) (by omega) (by omega)
theorem l_aPl1 (ms : List PMem) (hm : Mems ms) (tot : List Place) : ∀ i : Int × Int × List (List D) × Nat × List Place, (fun (i : Int × Int × List (List D) × Nat × List Place) => OnL i.2.2.1 i.2.2.2.1 i.2.2.2.2 ∧ i.2.2.2.2 ++ memPlaces (ms.drop i.2.1.toNat) i.1 = tot ∧ 0 ≤ i.2.1 ∧ i.2.1 ≤ ms.length ∧ 0 ≤ i.1 ∧ i.1 ≤ 16 * i.2.1 ∧ i.2.2.2.2.length ≤ 16 * (i.2.1 + 1)) i → (a_aPlaces.at_ 1 ((fun (i : Int × Int × List (List D) × Nat × List Place) => F_aPl1 ms i.1 i.2.1 i.2.2.1 i.2.2.2.1) i)).holds s_aPlaces.cx a_aPlaces.rs (fun r => r.le (rplaces tot)) := by
  refine loop_rule (a := a_aPlaces) (j := 1) (m := 400) s_aPlaces_sound (fun (i : Int × Int × List (List D) × Nat × List Place) => F_aPl1 ms i.1 i.2.1 i.2.2.1 i.2.2.2.1) (fun (i : Int × Int × List (List D) × Nat × List Place) => OnL i.2.2.1 i.2.2.2.1 i.2.2.2.2 ∧ i.2.2.2.2 ++ memPlaces (ms.drop i.2.1.toNat) i.1 = tot ∧ 0 ≤ i.2.1 ∧ i.2.1 ≤ ms.length ∧ 0 ≤ i.1 ∧ i.1 ≤ 16 * i.2.1 ∧ i.2.2.2.2.length ≤ 16 * (i.2.1 + 1)) (fun (i : Int × Int × List (List D) × Nat × List Place) => ((ms.length : Int) - i.2.1).toNat) ?_
  rintro ⟨at_, k, R, n, l⟩ h_inv ih
  try dsimp only at h_inv
  replace ih := fun (v0 : Int) (v1 : Int) (v2 : List (List D)) (v3 : Nat) (v4 : List Place) => ih (v0, v1, v2, v3, v4)
  try dsimp only at ih
  show VC.holds _ _ _ (a_aPlaces.round s_aPlaces 400 1 (F_aPl1 ms at_ k R n))
  rw [t_aPl1]
  try simp only [asRows_sl, asInt_int, asBool_bool, asStr_str, listOf_rowsOn, List.drop_zero, Prg.eta, Sta.eta, rowsOn_length, getD_drop, Nat.reduceAdd, rd_int, rd_PMem_name, rd_PMem_secret, rd_PMem_n, rd_PLabel_name, rd_PLabel_at_, rd_Ins_kind, rd_Ins_op, rd_Ins_d, rd_Ins_aR, rd_Ins_aN, rd_Ins_bR, rd_Ins_bN, rd_Ins_name, rd_Ins_target, rd_Ent_pc, rd_Ent_val, rd_Ent_addr, rd_Ent_fro, rd_Ent_next, rd_Ent_done, rd_Ent_known, rd_Ent_fault, rd_Place_reg, rd_Place_n, rd_Place_secret, rd_Obs_kind, rd_Obs_at_, rd_Dir_kind, rd_Dir_n]
  obtain ⟨h1, h2, h3, h4, h5, h6, h7⟩ := h_inv
  have hlen := hm.len
  repeat' first
    | refine br_not ?_
    | refine br_dec (fun _ => ?_) (fun _ => ?_)
    | refine br_beq (fun _ => ?_) (fun _ => ?_)
    | refine br_bne (fun _ => ?_) (fun _ => ?_)
    | refine br_holds (fun _ => ?_) (fun _ => ?_)
    | refine ⟨PreOk.mk ?_ rfl, ?_⟩
    | refine ⟨idx_ok _ _ _ rfl (by omega) (by omega), ?_⟩
    | refine ⟨okSh_ok _ _ _ (fun _ => rfl) (by omega) (by omega), ?_⟩
    | refine ⟨okSh_okD _ _ _ _ (fun _ => rfl) (by omega) (by omega), ?_⟩
    | refine ⟨aload_ok _ _ rfl (fun _ => rfl) (by omega) (by omega), ?_⟩
    | refine ⟨aload_okD _ _ _ rfl (fun _ => rfl) (by omega) (by omega), ?_⟩
    | refine ⟨astore_ok (by assumption) rfl (by omega) (by omega) (by decide), ?_⟩
    | refine ⟨app_ok (by assumption) rfl rfl (by simp only [List.length_cons, List.length_nil]; omega), ?_⟩
    | refine need_holds ?_ fun _ => ?_
    | refine all_holds fun y hy => ?_
    | refine ret_eq ?_
  · have hk : k < ms.length := by assumption
    have h8 := hm.n _ (rd_mem ms k h3 hk)
    have e : min (max (rd ms k).n 0) 16 = (rd ms k).n := by omega
    rw [e]
    refine l_aPl2 ms k _ _ _ (rd ms k).n _ tot ⟨h3, hk, hlen⟩ h8.2 (fun at' R' n' l' g1 g2 g3 g4 g5 => ih _ _ _ _ l' ⟨g1, g2, by omega, by omega, g3, g4, by omega⟩ (by omega)) _ _ _ _ l h1 ?_ (by omega) h8.1 h5 (by omega) (by omega)
    rw [Int.sub_zero, ← memPlaces_drop ms k at_ h3 hk]
    exact h2
  · have hk : k.toNat = ms.length := by omega
    rw [hk, List.drop_length] at h2
    simp only [memPlaces, List.append_nil] at h2
    subst h2
    exact congrArg _ (congrArg _ h1.1)
theorem l_aPl0 (p : Prg) (hm : Mems p.mems) : ∀ i : Int × List (List D) × Nat, (fun (i : Int × List (List D) × Nat) => 0 ≤ i.1 ∧ i.1 ≤ 4 ∧ ∃ l, OnL i.2.1 i.2.2 l ∧ l ++ regFrom p i.1 = regPlaces p ∧ l.length ≤ i.1) i → (a_aPlaces.at_ 0 ((fun (i : Int × List (List D) × Nat) => F_aPl0 p i.1 i.2.1 i.2.2) i)).holds s_aPlaces.cx a_aPlaces.rs (fun r => r.le (rplaces (placesS p))) := by
  refine loop_rule (a := a_aPlaces) (j := 0) (m := 400) s_aPlaces_sound (fun (i : Int × List (List D) × Nat) => F_aPl0 p i.1 i.2.1 i.2.2) (fun (i : Int × List (List D) × Nat) => 0 ≤ i.1 ∧ i.1 ≤ 4 ∧ ∃ l, OnL i.2.1 i.2.2 l ∧ l ++ regFrom p i.1 = regPlaces p ∧ l.length ≤ i.1) (fun (i : Int × List (List D) × Nat) => (4 - i.1).toNat) ?_
  rintro ⟨i, R, n⟩ h_inv ih
  try dsimp only at h_inv
  replace ih := fun (v0 : Int) (v1 : List (List D)) (v2 : Nat) => ih (v0, v1, v2)
  try dsimp only at ih
  show VC.holds _ _ _ (a_aPlaces.round s_aPlaces 400 0 (F_aPl0 p i R n))
  rw [t_aPl0]
  try simp only [asRows_sl, asInt_int, asBool_bool, asStr_str, listOf_rowsOn, List.drop_zero, Prg.eta, Sta.eta, rowsOn_length, getD_drop, Nat.reduceAdd, rd_int, rd_PMem_name, rd_PMem_secret, rd_PMem_n, rd_PLabel_name, rd_PLabel_at_, rd_Ins_kind, rd_Ins_op, rd_Ins_d, rd_Ins_aR, rd_Ins_aN, rd_Ins_bR, rd_Ins_bN, rd_Ins_name, rd_Ins_target, rd_Ent_pc, rd_Ent_val, rd_Ent_addr, rd_Ent_fro, rd_Ent_next, rd_Ent_done, rd_Ent_known, rd_Ent_fault, rd_Place_reg, rd_Place_n, rd_Place_secret, rd_Obs_kind, rd_Obs_at_, rd_Dir_kind, rd_Dir_n]
  obtain ⟨h3, h4, l, h1, h2, h5⟩ := h_inv
  have w1 : IntKind.wrap .i64 (i + 1) = i + 1 := wrap_small _ (by omega) (by omega)
  rw [w1]
  repeat' first
    | refine br_not ?_
    | refine br_dec (fun _ => ?_) (fun _ => ?_)
    | refine br_beq (fun _ => ?_) (fun _ => ?_)
    | refine br_bne (fun _ => ?_) (fun _ => ?_)
    | refine br_holds (fun _ => ?_) (fun _ => ?_)
    | refine ⟨PreOk.mk ?_ rfl, ?_⟩
    | refine ⟨idx_ok _ _ _ rfl (by omega) (by omega), ?_⟩
    | refine ⟨okSh_ok _ _ _ (fun _ => rfl) (by omega) (by omega), ?_⟩
    | refine ⟨okSh_okD _ _ _ _ (fun _ => rfl) (by omega) (by omega), ?_⟩
    | refine ⟨aload_ok _ _ rfl (fun _ => rfl) (by omega) (by omega), ?_⟩
    | refine ⟨aload_okD _ _ _ rfl (fun _ => rfl) (by omega) (by omega), ?_⟩
    | refine ⟨astore_ok (by assumption) rfl (by omega) (by omega) (by decide), ?_⟩
    | refine ⟨app_ok (by assumption) rfl rfl (by simp only [List.length_cons, List.length_nil]; omega), ?_⟩
    | refine need_holds ?_ fun _ => ?_
    | refine all_holds fun y hy => ?_
    | refine ret_eq ?_
    | refine ih _ _ _ ?_ ?_
  all_goals try omega
  all_goals try subst i
  all_goals first
    | rw [regFrom0] at h2
    | rw [regFrom1] at h2
    | rw [regFrom2] at h2
    | rw [regFrom3] at h2
    | skip
  all_goals first
    | rw [regPlace_ne ‹¬ _ = (0 : Int)›] at h2
    | rw [regPlace_eq ‹_›, List.nil_append] at h2
    | skip
  all_goals try exact ⟨by omega, by omega, l ++ [_], OnL.snoc h1 (⟨true, _, _⟩ : Place), by rw [List.append_assoc]; exact h2, by simp; omega⟩
  all_goals try exact ⟨by omega, by omega, l, h1, h2, by omega⟩
  · have hi : i = 4 := by omega
    subst hi
    rw [regFrom4, List.append_nil] at h2
    subst h2
    refine l_aPl1 p.mems hm (placesS p) (0, 0, R, n, regPlaces p) ⟨h1, rfl, by simp, by simp, by simp, by simp, by simp; omega⟩
theorem c_aPlaces_good : c_aPlaces.fe.Good Try.prog := by
  refine FT.good c_aPlaces ⟨Try.f84, by kernel_rfl, by decide +kernel, by kernel_rfl⟩ (fun p => by first | rfl | simp [c_aPlaces, rrRef, rplaces, Sta.fresh]) fun p hp => ?_
  refine acalls_le s_aPlaces_sound (fn := Try.f84) (a := a_aPlaces) (nargs := 1) (tbl := [(3, [1, 3, 10, 11, 1000003000000900001003]), (10, [3, 6, 26, 27, 28, 1000003000000900001003]), (13, [3, 6, 8, 26, 27, 28, 35, 36, 1000003000000900001003])]) (by kernel_rfl) (by kernel_rfl) rfl (m := 400) ?_
  show VC.holds _ _ _ (a_aPlaces.start s_aPlaces 400 [ap p])
  rw [t_aPlaces]
  try simp only [asRows_sl, asInt_int, asBool_bool, asStr_str, listOf_rowsOn, List.drop_zero, Prg.eta, Sta.eta, rowsOn_length, getD_drop, Nat.reduceAdd, rd_int, rd_PMem_name, rd_PMem_secret, rd_PMem_n, rd_PLabel_name, rd_PLabel_at_, rd_Ins_kind, rd_Ins_op, rd_Ins_d, rd_Ins_aR, rd_Ins_aN, rd_Ins_bR, rd_Ins_bN, rd_Ins_name, rd_Ins_target, rd_Ent_pc, rd_Ent_val, rd_Ent_addr, rd_Ent_fro, rd_Ent_next, rd_Ent_done, rd_Ent_known, rd_Ent_fault, rd_Place_reg, rd_Place_n, rd_Place_secret, rd_Obs_kind, rd_Obs_at_, rd_Dir_kind, rd_Dir_n]
  try simp only [c_aPlaces] at hp
  exact l_aPl0 p hp (0, [], 0) ⟨by simp, by simp, [], OnL.nil, rfl, by simp⟩
def c_rPlaces : FT Prg := ⟨37, fun p => [ap p], rdP1, fun p => Mems p.mems, fun p => rplaces (placesS p), false, fun p => by simp [ap, rdP1]⟩
noncomputable def a_rPlaces : FnA := (fnA Try.prog Try.f37 1 [(3, [1, 3, 4, 1000003000000900001003]), (9, [1, 3, 5, 6, 1000003000000900001003]), (12, [1, 3, 5, 6, 7, 1000003000000900001003])]).getD ⟨0, .skip, [], []⟩
def s_rPlaces : Sp := spT []
theorem s_rPlaces_sound : s_rPlaces.sound Try.prog := spT_sound fun e he => by cases he
def F_rPl0 (p : Prg) (i : Int) (R : List (List D)) (n : Nat) : St := ⟨mkS 58 [(1, vp 64), (3, vo 900001 n), (4, vi i)], [(64, bx p.cells), (900001, ba 3 R)]⟩
def F_rPl1 (p : Prg) (at_ k : Int) (R : List (List D)) (n : Nat) : St := ⟨mkS 58 [(1, vp 64), (3, vo 900001 n), (5, vi at_), (6, vi k)], [(64, bx p.cells), (900001, ba 3 R)]⟩
def F_rPl2 (p : Prg) (k : Int) (at_ j : Int) (R : List (List D)) (n : Nat) : St := ⟨mkS 58 [(1, vp 64), (3, vo 900001 n), (5, vi at_), (6, vi k), (7, vi j)], [(64, bx p.cells), (900001, ba 3 R)]⟩
set_option maxRecDepth 100000 in
theorem t_rPlaces (p : Prg) : a_rPlaces.start s_rPlaces 400 [ap p] =
(FnA.at_ a_rPlaces 0 (F_rPl0 p (0 : Int) [] (0 : Nat))) := by kernel_rfl
set_option maxRecDepth 100000 in
theorem t_rPl0 (p : Prg) (i : Int) (R : List (List D)) (n : Nat) : a_rPlaces.round s_rPlaces 400 0 (F_rPl0 p i R n) =
(VC.br (decide (i < (4 : Int)))
 (VC.br (decide (i = (0 : Int)))
  (VC.br (p.r0 != (0 : Int))
   (VC.br (decide (i = (0 : Int)))
    (VC.need ((List.all [[D.bool true, D.int IntKind.i64 i, D.bool (p.r0 == (2 : Int))]] fun r ↦ List.length r == (3 : Nat)) = true ∧ (List.all R fun r ↦ List.length r == (3 : Nat)) = true ∧ (List.length R + List.length [[D.bool true, D.int IntKind.i64 i, D.bool (p.r0 == (2 : Int))]] + (100 : Nat)) * (25 : Nat) ≤ (70368744177664 : Nat))
    (FnA.at_ a_rPlaces 0 (F_rPl0 p (IntKind.wrap IntKind.i64 (i + (1 : Int))) (R ++ [[D.bool true, D.int IntKind.i64 i, D.bool (p.r0 == (2 : Int))]]) (List.length R + List.length [[D.bool true, D.int IntKind.i64 i, D.bool (p.r0 == (2 : Int))]]))))
    (VC.br (decide (i = (1 : Int)))
     (VC.need ((List.all [[D.bool true, D.int IntKind.i64 i, D.bool (p.r1 == (2 : Int))]] fun r ↦ List.length r == (3 : Nat)) = true ∧ (List.all R fun r ↦ List.length r == (3 : Nat)) = true ∧ (List.length R + List.length [[D.bool true, D.int IntKind.i64 i, D.bool (p.r1 == (2 : Int))]] + (100 : Nat)) * (25 : Nat) ≤ (70368744177664 : Nat))
     (FnA.at_ a_rPlaces 0 (F_rPl0 p (IntKind.wrap IntKind.i64 (i + (1 : Int))) (R ++ [[D.bool true, D.int IntKind.i64 i, D.bool (p.r1 == (2 : Int))]]) (List.length R + List.length [[D.bool true, D.int IntKind.i64 i, D.bool (p.r1 == (2 : Int))]]))))
     (VC.br (decide (i = (2 : Int)))
      (VC.need ((List.all [[D.bool true, D.int IntKind.i64 i, D.bool (p.r2 == (2 : Int))]] fun r ↦ List.length r == (3 : Nat)) = true ∧ (List.all R fun r ↦ List.length r == (3 : Nat)) = true ∧ (List.length R + List.length [[D.bool true, D.int IntKind.i64 i, D.bool (p.r2 == (2 : Int))]] + (100 : Nat)) * (25 : Nat) ≤ (70368744177664 : Nat))
      (FnA.at_ a_rPlaces 0 (F_rPl0 p (IntKind.wrap IntKind.i64 (i + (1 : Int))) (R ++ [[D.bool true, D.int IntKind.i64 i, D.bool (p.r2 == (2 : Int))]]) (List.length R + List.length [[D.bool true, D.int IntKind.i64 i, D.bool (p.r2 == (2 : Int))]]))))
      (VC.br (decide (i = (3 : Int)))
       (VC.need ((List.all [[D.bool true, D.int IntKind.i64 i, D.bool (p.r3 == (2 : Int))]] fun r ↦ List.length r == (3 : Nat)) = true ∧ (List.all R fun r ↦ List.length r == (3 : Nat)) = true ∧ (List.length R + List.length [[D.bool true, D.int IntKind.i64 i, D.bool (p.r3 == (2 : Int))]] + (100 : Nat)) * (25 : Nat) ≤ (70368744177664 : Nat))
       (FnA.at_ a_rPlaces 0 (F_rPl0 p (IntKind.wrap IntKind.i64 (i + (1 : Int))) (R ++ [[D.bool true, D.int IntKind.i64 i, D.bool (p.r3 == (2 : Int))]]) (List.length R + List.length [[D.bool true, D.int IntKind.i64 i, D.bool (p.r3 == (2 : Int))]]))))
       VC.ff))))
   (FnA.at_ a_rPlaces 0 (F_rPl0 p (IntKind.wrap IntKind.i64 (i + (1 : Int))) R n)))
  (VC.br (decide (i = (1 : Int)))
   (VC.br (p.r1 != (0 : Int))
    (VC.br (decide (i = (0 : Int)))
     (VC.need ((List.all [[D.bool true, D.int IntKind.i64 i, D.bool (p.r0 == (2 : Int))]] fun r ↦ List.length r == (3 : Nat)) = true ∧ (List.all R fun r ↦ List.length r == (3 : Nat)) = true ∧ (List.length R + List.length [[D.bool true, D.int IntKind.i64 i, D.bool (p.r0 == (2 : Int))]] + (100 : Nat)) * (25 : Nat) ≤ (70368744177664 : Nat))
     (FnA.at_ a_rPlaces 0 (F_rPl0 p (IntKind.wrap IntKind.i64 (i + (1 : Int))) (R ++ [[D.bool true, D.int IntKind.i64 i, D.bool (p.r0 == (2 : Int))]]) (List.length R + List.length [[D.bool true, D.int IntKind.i64 i, D.bool (p.r0 == (2 : Int))]]))))
     (VC.br (decide (i = (1 : Int)))
      (VC.need ((List.all [[D.bool true, D.int IntKind.i64 i, D.bool (p.r1 == (2 : Int))]] fun r ↦ List.length r == (3 : Nat)) = true ∧ (List.all R fun r ↦ List.length r == (3 : Nat)) = true ∧ (List.length R + List.length [[D.bool true, D.int IntKind.i64 i, D.bool (p.r1 == (2 : Int))]] + (100 : Nat)) * (25 : Nat) ≤ (70368744177664 : Nat))
      (FnA.at_ a_rPlaces 0 (F_rPl0 p (IntKind.wrap IntKind.i64 (i + (1 : Int))) (R ++ [[D.bool true, D.int IntKind.i64 i, D.bool (p.r1 == (2 : Int))]]) (List.length R + List.length [[D.bool true, D.int IntKind.i64 i, D.bool (p.r1 == (2 : Int))]]))))
      (VC.br (decide (i = (2 : Int)))
       (VC.need ((List.all [[D.bool true, D.int IntKind.i64 i, D.bool (p.r2 == (2 : Int))]] fun r ↦ List.length r == (3 : Nat)) = true ∧ (List.all R fun r ↦ List.length r == (3 : Nat)) = true ∧ (List.length R + List.length [[D.bool true, D.int IntKind.i64 i, D.bool (p.r2 == (2 : Int))]] + (100 : Nat)) * (25 : Nat) ≤ (70368744177664 : Nat))
       (FnA.at_ a_rPlaces 0 (F_rPl0 p (IntKind.wrap IntKind.i64 (i + (1 : Int))) (R ++ [[D.bool true, D.int IntKind.i64 i, D.bool (p.r2 == (2 : Int))]]) (List.length R + List.length [[D.bool true, D.int IntKind.i64 i, D.bool (p.r2 == (2 : Int))]]))))
       (VC.br (decide (i = (3 : Int)))
        (VC.need ((List.all [[D.bool true, D.int IntKind.i64 i, D.bool (p.r3 == (2 : Int))]] fun r ↦ List.length r == (3 : Nat)) = true ∧ (List.all R fun r ↦ List.length r == (3 : Nat)) = true ∧ (List.length R + List.length [[D.bool true, D.int IntKind.i64 i, D.bool (p.r3 == (2 : Int))]] + (100 : Nat)) * (25 : Nat) ≤ (70368744177664 : Nat))
        (FnA.at_ a_rPlaces 0 (F_rPl0 p (IntKind.wrap IntKind.i64 (i + (1 : Int))) (R ++ [[D.bool true, D.int IntKind.i64 i, D.bool (p.r3 == (2 : Int))]]) (List.length R + List.length [[D.bool true, D.int IntKind.i64 i, D.bool (p.r3 == (2 : Int))]]))))
        VC.ff))))
    (FnA.at_ a_rPlaces 0 (F_rPl0 p (IntKind.wrap IntKind.i64 (i + (1 : Int))) R n)))
   (VC.br (decide (i = (2 : Int)))
    (VC.br (p.r2 != (0 : Int))
     (VC.br (decide (i = (0 : Int)))
      (VC.need ((List.all [[D.bool true, D.int IntKind.i64 i, D.bool (p.r0 == (2 : Int))]] fun r ↦ List.length r == (3 : Nat)) = true ∧ (List.all R fun r ↦ List.length r == (3 : Nat)) = true ∧ (List.length R + List.length [[D.bool true, D.int IntKind.i64 i, D.bool (p.r0 == (2 : Int))]] + (100 : Nat)) * (25 : Nat) ≤ (70368744177664 : Nat))
      (FnA.at_ a_rPlaces 0 (F_rPl0 p (IntKind.wrap IntKind.i64 (i + (1 : Int))) (R ++ [[D.bool true, D.int IntKind.i64 i, D.bool (p.r0 == (2 : Int))]]) (List.length R + List.length [[D.bool true, D.int IntKind.i64 i, D.bool (p.r0 == (2 : Int))]]))))
      (VC.br (decide (i = (1 : Int)))
       (VC.need ((List.all [[D.bool true, D.int IntKind.i64 i, D.bool (p.r1 == (2 : Int))]] fun r ↦ List.length r == (3 : Nat)) = true ∧ (List.all R fun r ↦ List.length r == (3 : Nat)) = true ∧ (List.length R + List.length [[D.bool true, D.int IntKind.i64 i, D.bool (p.r1 == (2 : Int))]] + (100 : Nat)) * (25 : Nat) ≤ (70368744177664 : Nat))
       (FnA.at_ a_rPlaces 0 (F_rPl0 p (IntKind.wrap IntKind.i64 (i + (1 : Int))) (R ++ [[D.bool true, D.int IntKind.i64 i, D.bool (p.r1 == (2 : Int))]]) (List.length R + List.length [[D.bool true, D.int IntKind.i64 i, D.bool (p.r1 == (2 : Int))]]))))
       (VC.br (decide (i = (2 : Int)))
        (VC.need ((List.all [[D.bool true, D.int IntKind.i64 i, D.bool (p.r2 == (2 : Int))]] fun r ↦ List.length r == (3 : Nat)) = true ∧ (List.all R fun r ↦ List.length r == (3 : Nat)) = true ∧ (List.length R + List.length [[D.bool true, D.int IntKind.i64 i, D.bool (p.r2 == (2 : Int))]] + (100 : Nat)) * (25 : Nat) ≤ (70368744177664 : Nat))
        (FnA.at_ a_rPlaces 0 (F_rPl0 p (IntKind.wrap IntKind.i64 (i + (1 : Int))) (R ++ [[D.bool true, D.int IntKind.i64 i, D.bool (p.r2 == (2 : Int))]]) (List.length R + List.length [[D.bool true, D.int IntKind.i64 i, D.bool (p.r2 == (2 : Int))]]))))
        (VC.br (decide (i = (3 : Int)))
         (VC.need ((List.all [[D.bool true, D.int IntKind.i64 i, D.bool (p.r3 == (2 : Int))]] fun r ↦ List.length r == (3 : Nat)) = true ∧ (List.all R fun r ↦ List.length r == (3 : Nat)) = true ∧ (List.length R + List.length [[D.bool true, D.int IntKind.i64 i, D.bool (p.r3 == (2 : Int))]] + (100 : Nat)) * (25 : Nat) ≤ (70368744177664 : Nat))
         (FnA.at_ a_rPlaces 0 (F_rPl0 p (IntKind.wrap IntKind.i64 (i + (1 : Int))) (R ++ [[D.bool true, D.int IntKind.i64 i, D.bool (p.r3 == (2 : Int))]]) (List.length R + List.length [[D.bool true, D.int IntKind.i64 i, D.bool (p.r3 == (2 : Int))]]))))
         VC.ff))))
     (FnA.at_ a_rPlaces 0 (F_rPl0 p (IntKind.wrap IntKind.i64 (i + (1 : Int))) R n)))
    (VC.br (decide (i = (3 : Int)))
     (VC.br (p.r3 != (0 : Int))
      (VC.br (decide (i = (0 : Int)))
       (VC.need ((List.all [[D.bool true, D.int IntKind.i64 i, D.bool (p.r0 == (2 : Int))]] fun r ↦ List.length r == (3 : Nat)) = true ∧ (List.all R fun r ↦ List.length r == (3 : Nat)) = true ∧ (List.length R + List.length [[D.bool true, D.int IntKind.i64 i, D.bool (p.r0 == (2 : Int))]] + (100 : Nat)) * (25 : Nat) ≤ (70368744177664 : Nat))
       (FnA.at_ a_rPlaces 0 (F_rPl0 p (IntKind.wrap IntKind.i64 (i + (1 : Int))) (R ++ [[D.bool true, D.int IntKind.i64 i, D.bool (p.r0 == (2 : Int))]]) (List.length R + List.length [[D.bool true, D.int IntKind.i64 i, D.bool (p.r0 == (2 : Int))]]))))
       (VC.br (decide (i = (1 : Int)))
        (VC.need ((List.all [[D.bool true, D.int IntKind.i64 i, D.bool (p.r1 == (2 : Int))]] fun r ↦ List.length r == (3 : Nat)) = true ∧ (List.all R fun r ↦ List.length r == (3 : Nat)) = true ∧ (List.length R + List.length [[D.bool true, D.int IntKind.i64 i, D.bool (p.r1 == (2 : Int))]] + (100 : Nat)) * (25 : Nat) ≤ (70368744177664 : Nat))
        (FnA.at_ a_rPlaces 0 (F_rPl0 p (IntKind.wrap IntKind.i64 (i + (1 : Int))) (R ++ [[D.bool true, D.int IntKind.i64 i, D.bool (p.r1 == (2 : Int))]]) (List.length R + List.length [[D.bool true, D.int IntKind.i64 i, D.bool (p.r1 == (2 : Int))]]))))
        (VC.br (decide (i = (2 : Int)))
         (VC.need ((List.all [[D.bool true, D.int IntKind.i64 i, D.bool (p.r2 == (2 : Int))]] fun r ↦ List.length r == (3 : Nat)) = true ∧ (List.all R fun r ↦ List.length r == (3 : Nat)) = true ∧ (List.length R + List.length [[D.bool true, D.int IntKind.i64 i, D.bool (p.r2 == (2 : Int))]] + (100 : Nat)) * (25 : Nat) ≤ (70368744177664 : Nat))
         (FnA.at_ a_rPlaces 0 (F_rPl0 p (IntKind.wrap IntKind.i64 (i + (1 : Int))) (R ++ [[D.bool true, D.int IntKind.i64 i, D.bool (p.r2 == (2 : Int))]]) (List.length R + List.length [[D.bool true, D.int IntKind.i64 i, D.bool (p.r2 == (2 : Int))]]))))
         (VC.br (decide (i = (3 : Int)))
          (VC.need ((List.all [[D.bool true, D.int IntKind.i64 i, D.bool (p.r3 == (2 : Int))]] fun r ↦ List.length r == (3 : Nat)) = true ∧ (List.all R fun r ↦ List.length r == (3 : Nat)) = true ∧ (List.length R + List.length [[D.bool true, D.int IntKind.i64 i, D.bool (p.r3 == (2 : Int))]] + (100 : Nat)) * (25 : Nat) ≤ (70368744177664 : Nat))
          (FnA.at_ a_rPlaces 0 (F_rPl0 p (IntKind.wrap IntKind.i64 (i + (1 : Int))) (R ++ [[D.bool true, D.int IntKind.i64 i, D.bool (p.r3 == (2 : Int))]]) (List.length R + List.length [[D.bool true, D.int IntKind.i64 i, D.bool (p.r3 == (2 : Int))]]))))
          VC.ff))))
      (FnA.at_ a_rPlaces 0 (F_rPl0 p (IntKind.wrap IntKind.i64 (i + (1 : Int))) R n)))
     VC.ff))))
 (FnA.at_ a_rPlaces 1 (F_rPl1 p (0 : Int) (0 : Int) R n))) := by kernel_rfl
set_option maxRecDepth 100000 in
theorem t_rPl1 (p : Prg) (at_ k : Int) (R : List (List D)) (n : Nat) : a_rPlaces.round s_rPlaces 400 1 (F_rPl1 p at_ k R n) =
(VC.br (decide (k < (↑(List.length (rowsOn p.mems)) : Int)))
 (FnA.at_ a_rPlaces 2 (F_rPl2 p k at_ (0 : Int) R n))
 (VC.ret (some (RR.c (Rc.new (3 : Nat) R))))) := by kernel_rfl
set_option maxRecDepth 100000 in
theorem t_rPl2 (p : Prg) (k : Int) (at_ j : Int) (R : List (List D)) (n : Nat) : a_rPlaces.round s_rPlaces 400 2 (F_rPl2 p k at_ j R n) =
(VC.need ((0 : Int) ≤ k ∧ k < (↑(List.length (rowsOn p.mems)) : Int) ∧ List.length (rowAt (rowsOn p.mems) (Int.toNat k)) = (3 : Nat))
(VC.need (okSh [Kd.int IntKind.i64] (List.drop (2 : Nat) (rowAt (rowsOn p.mems) (Int.toNat k))))
(VC.br (decide (j < asInt (List.getD (List.drop (2 : Nat) (rowAt (rowsOn p.mems) (Int.toNat k))) (0 : Nat) D.nilp)))
 (VC.need ((0 : Int) ≤ k ∧ k < (↑(List.length (rowsOn p.mems)) : Int) ∧ List.length (rowAt (rowsOn p.mems) (Int.toNat k)) = (3 : Nat))
 (VC.need (okSh [Kd.bool] (List.drop (1 : Nat) (rowAt (rowsOn p.mems) (Int.toNat k))))
 (VC.need ((List.all [[D.bool false, D.int IntKind.i64 at_, D.bool (asBool (List.getD (List.drop (1 : Nat) (rowAt (rowsOn p.mems) (Int.toNat k))) (0 : Nat) D.nilp))]] fun r ↦ List.length r == (3 : Nat)) = true ∧ (List.all R fun r ↦ List.length r == (3 : Nat)) = true ∧ (List.length R + List.length [[D.bool false, D.int IntKind.i64 at_, D.bool (asBool (List.getD (List.drop (1 : Nat) (rowAt (rowsOn p.mems) (Int.toNat k))) (0 : Nat) D.nilp))]] + (100 : Nat)) * (25 : Nat) ≤ (70368744177664 : Nat))
 (FnA.at_ a_rPlaces 2 (F_rPl2 p k (IntKind.wrap IntKind.i64 (at_ + (1 : Int))) (IntKind.wrap IntKind.i64 (j + (1 : Int))) (R ++ [[D.bool false, D.int IntKind.i64 at_, D.bool (asBool (List.getD (List.drop (1 : Nat) (rowAt (rowsOn p.mems) (Int.toNat k))) (0 : Nat) D.nilp))]]) (List.length R + List.length [[D.bool false, D.int IntKind.i64 at_, D.bool (asBool (List.getD (List.drop (1 : Nat) (rowAt (rowsOn p.mems) (Int.toNat k))) (0 : Nat) D.nilp))]]))))))
 (FnA.at_ a_rPlaces 1 (F_rPl1 p at_ (IntKind.wrap IntKind.i64 (k + (1 : Int))) R n))))) := by kernel_rfl
theorem l_rPl2 (p : Prg) (hm : Mems p.mems) (k : Int) (Q : RR → Prop) (tot : List Place) (hk0 : 0 ≤ k) (hk : k < p.mems.length)
    (hnext : ∀ at_ R n l, OnL R n l → l ++ memPlaces (p.mems.drop (k + 1).toNat) at_ = tot → 0 ≤ at_ → at_ ≤ 16 * (k + 1) → l.length ≤ 16 * (k + 2) → (a_rPlaces.at_ 1 (F_rPl1 p at_ (k + 1) R n)).holds s_rPlaces.cx a_rPlaces.rs Q) :
    ∀ at_ j R n l, OnL R n l → l ++ (memPlace ((rd p.mems k).n - j) at_ (rd p.mems k).secret ++ memPlaces (p.mems.drop (k + 1).toNat) (at_ + ((rd p.mems k).n - j))) = tot → 0 ≤ j → j ≤ (rd p.mems k).n → 0 ≤ at_ → at_ ≤ 16 * k + j → l.length ≤ 16 * (k + 1) + j →
      (a_rPlaces.at_ 2 (F_rPl2 p k at_ j R n)).holds s_rPlaces.cx a_rPlaces.rs Q := by
  have hlen := hm.len
  have hb := (hm.n _ (rd_mem p.mems k hk0 hk)).2
  have key := loop_rule (a := a_rPlaces) (j := 2) (m := 400) (R := Q) s_rPlaces_sound (fun (i : Int × Int × List (List D) × Nat × List Place) => F_rPl2 p k i.1 i.2.1 i.2.2.1 i.2.2.2.1)
    (fun i => OnL i.2.2.1 i.2.2.2.1 i.2.2.2.2 ∧ i.2.2.2.2 ++ (memPlace ((rd p.mems k).n - i.2.1) i.1 (rd p.mems k).secret ++ memPlaces (p.mems.drop (k + 1).toNat) (i.1 + ((rd p.mems k).n - i.2.1))) = tot ∧ 0 ≤ i.2.1 ∧ i.2.1 ≤ (rd p.mems k).n ∧ 0 ≤ i.1 ∧ i.1 ≤ 16 * k + i.2.1 ∧ i.2.2.2.2.length ≤ 16 * (k + 1) + i.2.1) (fun i => ((rd p.mems k).n - i.2.1).toNat) ?_
  · exact fun at_ j R n l h1 h2 h3 h4 h5 h6 h7 => key (at_, j, R, n, l) ⟨h1, h2, h3, h4, h5, h6, h7⟩
  rintro ⟨at_, j, R, n, l⟩ ⟨h1, h2, h3, h4, h5, h6, h7⟩ ih
  replace ih := fun v0 v1 v2 v3 v4 => ih (v0, v1, v2, v3, v4)
  dsimp only at h1 h2 h3 h4 h5 h6 h7 ih
  show VC.holds _ _ _ (a_rPlaces.round s_rPlaces 400 2 (F_rPl2 p k at_ j R n))
  rw [t_rPl2]
  have w1 : IntKind.wrap .i64 (k + 1) = k + 1 := wrap_small _ (by omega) (by omega)
  have w2 : IntKind.wrap .i64 (j + 1) = j + 1 := wrap_small _ (by omega) (by omega)
  have w3 : IntKind.wrap .i64 (at_ + 1) = at_ + 1 := wrap_small _ (by omega) (by omega)
  rw [w1, w2, w3]
  simp only [asRows_sl, asInt_int, asBool_bool, asStr_str, listOf_rowsOn, List.drop_zero, Prg.eta, Sta.eta, rowsOn_length, getD_drop, Nat.reduceAdd, rd_int, rd_PMem_name, rd_PMem_secret, rd_PMem_n, rd_PLabel_name, rd_PLabel_at_, rd_Ins_kind, rd_Ins_op, rd_Ins_d, rd_Ins_aR, rd_Ins_aN, rd_Ins_bR, rd_Ins_bN, rd_Ins_name, rd_Ins_target, rd_Ent_pc, rd_Ent_val, rd_Ent_addr, rd_Ent_fro, rd_Ent_next, rd_Ent_done, rd_Ent_known, rd_Ent_fault, rd_Place_reg, rd_Place_n, rd_Place_secret, rd_Obs_kind, rd_Obs_at_, rd_Dir_kind, rd_Dir_n]
  repeat' first
    | refine br_not ?_
    | refine br_dec (fun _ => ?_) (fun _ => ?_)
    | refine br_beq (fun _ => ?_) (fun _ => ?_)
    | refine br_bne (fun _ => ?_) (fun _ => ?_)
    | refine br_holds (fun _ => ?_) (fun _ => ?_)
    | refine ⟨PreOk.mk ?_ rfl, ?_⟩
    | refine ⟨idx_ok _ _ _ rfl (by omega) (by omega), ?_⟩
    | refine ⟨okSh_ok _ _ _ (fun _ => rfl) (by omega) (by omega), ?_⟩
    | refine ⟨okSh_okD _ _ _ _ (fun _ => rfl) (by omega) (by omega), ?_⟩
    | refine ⟨aload_ok _ _ rfl (fun _ => rfl) (by omega) (by omega), ?_⟩
    | refine ⟨aload_okD _ _ _ rfl (fun _ => rfl) (by omega) (by omega), ?_⟩
    | refine ⟨astore_ok (by assumption) rfl (by omega) (by omega) (by decide), ?_⟩
    | refine ⟨app_ok (by assumption) rfl rfl (by simp only [List.length_cons, List.length_nil]; omega), ?_⟩
    | refine need_holds ?_ fun _ => ?_
    | refine all_holds fun y hy => ?_
    | refine ret_eq ?_
  · have hj : j < (rd p.mems k).n := by assumption
    refine ih _ _ _ _ (l ++ [⟨false, at_, (rd p.mems k).secret⟩]) ⟨OnL.snoc h1 (⟨false, at_, (rd p.mems k).secret⟩ : Place), ?_, by omega, by omega, by omega, by omega, ?_⟩ (by omega)
    · rw [memPlace_succ (rd p.mems k).secret (by omega)] at h2
      rw [List.append_assoc, show (rd p.mems k).n - (j + 1) = (rd p.mems k).n - j - 1 by omega, show at_ + 1 + ((rd p.mems k).n - j - 1) = at_ + ((rd p.mems k).n - j) by omega]
      simpa using h2
    · simp; omega
  · have hj : j = (rd p.mems k).n := by omega
    subst hj
    rw [memPlace_zero (rd p.mems k).secret (by omega), List.nil_append, Int.sub_self, Int.add_zero] at h2
    exact hnext _ _ _ l h1 h2 (by omega) (by omega) (by omega)
theorem l_rPl1 (p : Prg) (hm : Mems p.mems) (tot : List Place) : ∀ i : Int × Int × List (List D) × Nat × List Place, (fun (i : Int × Int × List (List D) × Nat × List Place) => OnL i.2.2.1 i.2.2.2.1 i.2.2.2.2 ∧ i.2.2.2.2 ++ memPlaces (p.mems.drop i.2.1.toNat) i.1 = tot ∧ 0 ≤ i.2.1 ∧ i.2.1 ≤ p.mems.length ∧ 0 ≤ i.1 ∧ i.1 ≤ 16 * i.2.1 ∧ i.2.2.2.2.length ≤ 16 * (i.2.1 + 1)) i → (a_rPlaces.at_ 1 ((fun (i : Int × Int × List (List D) × Nat × List Place) => F_rPl1 p i.1 i.2.1 i.2.2.1 i.2.2.2.1) i)).holds s_rPlaces.cx a_rPlaces.rs (fun r => r.le (rplaces tot)) := by
  refine loop_rule (a := a_rPlaces) (j := 1) (m := 400) s_rPlaces_sound (fun (i : Int × Int × List (List D) × Nat × List Place) => F_rPl1 p i.1 i.2.1 i.2.2.1 i.2.2.2.1) (fun (i : Int × Int × List (List D) × Nat × List Place) => OnL i.2.2.1 i.2.2.2.1 i.2.2.2.2 ∧ i.2.2.2.2 ++ memPlaces (p.mems.drop i.2.1.toNat) i.1 = tot ∧ 0 ≤ i.2.1 ∧ i.2.1 ≤ p.mems.length ∧ 0 ≤ i.1 ∧ i.1 ≤ 16 * i.2.1 ∧ i.2.2.2.2.length ≤ 16 * (i.2.1 + 1)) (fun (i : Int × Int × List (List D) × Nat × List Place) => ((p.mems.length : Int) - i.2.1).toNat) ?_
  rintro ⟨at_, k, R, n, l⟩ h_inv ih
  try dsimp only at h_inv
  replace ih := fun (v0 : Int) (v1 : Int) (v2 : List (List D)) (v3 : Nat) (v4 : List Place) => ih (v0, v1, v2, v3, v4)
  try dsimp only at ih
  show VC.holds _ _ _ (a_rPlaces.round s_rPlaces 400 1 (F_rPl1 p at_ k R n))
  rw [t_rPl1]
  try simp only [asRows_sl, asInt_int, asBool_bool, asStr_str, listOf_rowsOn, List.drop_zero, Prg.eta, Sta.eta, rowsOn_length, getD_drop, Nat.reduceAdd, rd_int, rd_PMem_name, rd_PMem_secret, rd_PMem_n, rd_PLabel_name, rd_PLabel_at_, rd_Ins_kind, rd_Ins_op, rd_Ins_d, rd_Ins_aR, rd_Ins_aN, rd_Ins_bR, rd_Ins_bN, rd_Ins_name, rd_Ins_target, rd_Ent_pc, rd_Ent_val, rd_Ent_addr, rd_Ent_fro, rd_Ent_next, rd_Ent_done, rd_Ent_known, rd_Ent_fault, rd_Place_reg, rd_Place_n, rd_Place_secret, rd_Obs_kind, rd_Obs_at_, rd_Dir_kind, rd_Dir_n]
  obtain ⟨h1, h2, h3, h4, h5, h6, h7⟩ := h_inv
  have hlen := hm.len
  repeat' first
    | refine br_not ?_
    | refine br_dec (fun _ => ?_) (fun _ => ?_)
    | refine br_beq (fun _ => ?_) (fun _ => ?_)
    | refine br_bne (fun _ => ?_) (fun _ => ?_)
    | refine br_holds (fun _ => ?_) (fun _ => ?_)
    | refine ⟨PreOk.mk ?_ rfl, ?_⟩
    | refine ⟨idx_ok _ _ _ rfl (by omega) (by omega), ?_⟩
    | refine ⟨okSh_ok _ _ _ (fun _ => rfl) (by omega) (by omega), ?_⟩
    | refine ⟨okSh_okD _ _ _ _ (fun _ => rfl) (by omega) (by omega), ?_⟩
    | refine ⟨aload_ok _ _ rfl (fun _ => rfl) (by omega) (by omega), ?_⟩
    | refine ⟨aload_okD _ _ _ rfl (fun _ => rfl) (by omega) (by omega), ?_⟩
    | refine ⟨astore_ok (by assumption) rfl (by omega) (by omega) (by decide), ?_⟩
    | refine ⟨app_ok (by assumption) rfl rfl (by simp only [List.length_cons, List.length_nil]; omega), ?_⟩
    | refine need_holds ?_ fun _ => ?_
    | refine all_holds fun y hy => ?_
    | refine ret_eq ?_
  · have hk : k < p.mems.length := by assumption
    have h8 := hm.n _ (rd_mem p.mems k h3 hk)
    refine l_rPl2 p hm k _ tot h3 hk (fun at' R' n' l' g1 g2 g3 g4 g5 => ih _ _ _ _ l' ⟨g1, g2, by omega, by omega, g3, g4, by omega⟩ (by omega)) _ _ _ _ l h1 ?_ (by omega) h8.1 h5 (by omega) (by omega)
    rw [Int.sub_zero, ← memPlaces_drop p.mems k at_ h3 hk]
    exact h2
  · have hk : k.toNat = p.mems.length := by omega
    rw [hk, List.drop_length] at h2
    simp only [memPlaces, List.append_nil] at h2
    subst h2
    exact congrArg _ (congrArg _ h1.1)
theorem l_rPl0 (p : Prg) (hm : Mems p.mems) : ∀ i : Int × List (List D) × Nat, (fun (i : Int × List (List D) × Nat) => 0 ≤ i.1 ∧ i.1 ≤ 4 ∧ ∃ l, OnL i.2.1 i.2.2 l ∧ l ++ regFrom p i.1 = regPlaces p ∧ l.length ≤ i.1) i → (a_rPlaces.at_ 0 ((fun (i : Int × List (List D) × Nat) => F_rPl0 p i.1 i.2.1 i.2.2) i)).holds s_rPlaces.cx a_rPlaces.rs (fun r => r.le (rplaces (placesS p))) := by
  refine loop_rule (a := a_rPlaces) (j := 0) (m := 400) s_rPlaces_sound (fun (i : Int × List (List D) × Nat) => F_rPl0 p i.1 i.2.1 i.2.2) (fun (i : Int × List (List D) × Nat) => 0 ≤ i.1 ∧ i.1 ≤ 4 ∧ ∃ l, OnL i.2.1 i.2.2 l ∧ l ++ regFrom p i.1 = regPlaces p ∧ l.length ≤ i.1) (fun (i : Int × List (List D) × Nat) => (4 - i.1).toNat) ?_
  rintro ⟨i, R, n⟩ h_inv ih
  try dsimp only at h_inv
  replace ih := fun (v0 : Int) (v1 : List (List D)) (v2 : Nat) => ih (v0, v1, v2)
  try dsimp only at ih
  show VC.holds _ _ _ (a_rPlaces.round s_rPlaces 400 0 (F_rPl0 p i R n))
  rw [t_rPl0]
  try simp only [asRows_sl, asInt_int, asBool_bool, asStr_str, listOf_rowsOn, List.drop_zero, Prg.eta, Sta.eta, rowsOn_length, getD_drop, Nat.reduceAdd, rd_int, rd_PMem_name, rd_PMem_secret, rd_PMem_n, rd_PLabel_name, rd_PLabel_at_, rd_Ins_kind, rd_Ins_op, rd_Ins_d, rd_Ins_aR, rd_Ins_aN, rd_Ins_bR, rd_Ins_bN, rd_Ins_name, rd_Ins_target, rd_Ent_pc, rd_Ent_val, rd_Ent_addr, rd_Ent_fro, rd_Ent_next, rd_Ent_done, rd_Ent_known, rd_Ent_fault, rd_Place_reg, rd_Place_n, rd_Place_secret, rd_Obs_kind, rd_Obs_at_, rd_Dir_kind, rd_Dir_n]
  obtain ⟨h3, h4, l, h1, h2, h5⟩ := h_inv
  have w1 : IntKind.wrap .i64 (i + 1) = i + 1 := wrap_small _ (by omega) (by omega)
  rw [w1]
  repeat' first
    | refine br_not ?_
    | refine br_dec (fun _ => ?_) (fun _ => ?_)
    | refine br_beq (fun _ => ?_) (fun _ => ?_)
    | refine br_bne (fun _ => ?_) (fun _ => ?_)
    | refine br_holds (fun _ => ?_) (fun _ => ?_)
    | refine ⟨PreOk.mk ?_ rfl, ?_⟩
    | refine ⟨idx_ok _ _ _ rfl (by omega) (by omega), ?_⟩
    | refine ⟨okSh_ok _ _ _ (fun _ => rfl) (by omega) (by omega), ?_⟩
    | refine ⟨okSh_okD _ _ _ _ (fun _ => rfl) (by omega) (by omega), ?_⟩
    | refine ⟨aload_ok _ _ rfl (fun _ => rfl) (by omega) (by omega), ?_⟩
    | refine ⟨aload_okD _ _ _ rfl (fun _ => rfl) (by omega) (by omega), ?_⟩
    | refine ⟨astore_ok (by assumption) rfl (by omega) (by omega) (by decide), ?_⟩
    | refine ⟨app_ok (by assumption) rfl rfl (by simp only [List.length_cons, List.length_nil]; omega), ?_⟩
    | refine need_holds ?_ fun _ => ?_
    | refine all_holds fun y hy => ?_
    | refine ret_eq ?_
    | refine ih _ _ _ ?_ ?_
  all_goals try omega
  all_goals try subst i
  all_goals first
    | rw [regFrom0] at h2
    | rw [regFrom1] at h2
    | rw [regFrom2] at h2
    | rw [regFrom3] at h2
    | skip
  all_goals first
    | rw [regPlace_ne ‹¬ _ = (0 : Int)›] at h2
    | rw [regPlace_eq ‹_›, List.nil_append] at h2
    | skip
  all_goals try exact ⟨by omega, by omega, l ++ [_], OnL.snoc h1 (⟨true, _, _⟩ : Place), by rw [List.append_assoc]; exact h2, by simp; omega⟩
  all_goals try exact ⟨by omega, by omega, l, h1, h2, by omega⟩
  · have hi : i = 4 := by omega
    subst hi
    rw [regFrom4, List.append_nil] at h2
    subst h2
    refine l_rPl1 p hm (placesS p) (0, 0, R, n, regPlaces p) ⟨h1, rfl, by simp, by simp, by simp, by simp, by simp; omega⟩
theorem c_rPlaces_good : c_rPlaces.fe.Good Try.prog := by
  refine FT.good c_rPlaces ⟨Try.f37, by kernel_rfl, by decide +kernel, by kernel_rfl⟩ (fun p => by first | rfl | simp [c_rPlaces, rrRef, rplaces, Sta.fresh]) fun p hp => ?_
  refine acalls_le s_rPlaces_sound (fn := Try.f37) (a := a_rPlaces) (nargs := 1) (tbl := [(3, [1, 3, 4, 1000003000000900001003]), (9, [1, 3, 5, 6, 1000003000000900001003]), (12, [1, 3, 5, 6, 7, 1000003000000900001003])]) (by kernel_rfl) (by kernel_rfl) rfl (m := 400) ?_
  show VC.holds _ _ _ (a_rPlaces.start s_rPlaces 400 [ap p])
  rw [t_rPlaces]
  try simp only [asRows_sl, asInt_int, asBool_bool, asStr_str, listOf_rowsOn, List.drop_zero, Prg.eta, Sta.eta, rowsOn_length, getD_drop, Nat.reduceAdd, rd_int, rd_PMem_name, rd_PMem_secret, rd_PMem_n, rd_PLabel_name, rd_PLabel_at_, rd_Ins_kind, rd_Ins_op, rd_Ins_d, rd_Ins_aR, rd_Ins_aN, rd_Ins_bR, rd_Ins_bN, rd_Ins_name, rd_Ins_target, rd_Ent_pc, rd_Ent_val, rd_Ent_addr, rd_Ent_fro, rd_Ent_next, rd_Ent_done, rd_Ent_known, rd_Ent_fault, rd_Place_reg, rd_Place_n, rd_Place_secret, rd_Obs_kind, rd_Obs_at_, rd_Dir_kind, rd_Dir_n]
  try simp only [c_rPlaces] at hp
  exact l_rPl0 p hp (0, [], 0) ⟨by simp, by simp, [], OnL.nil, rfl, by simp⟩
end Go.Proofs.Ytclabjihjopclaa.Ax
