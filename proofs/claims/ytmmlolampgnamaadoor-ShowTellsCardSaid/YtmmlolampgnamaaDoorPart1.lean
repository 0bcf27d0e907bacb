/- Several texts in one, in their order. -/
import Derived.Test.YtmmlolampgnamaaDoorAxW
import Derived.Test.YtmmlolampgnamaaDoorProg
section
/- What the program's functions come to, in plain words: words, places, states, one step, runs. -/
namespace Go.Proofs.YtmmlolampgnamaaDoor.Ax
open Go.RowKit
set_option linter.unusedVariables false

/-! ### Words -/
def okW (w : Int) : Prop := 1 ≤ w ∧ w ≤ 16
instance (w : Int) : Decidable (okW w) := by unfold okW; infer_instance
def sizeS (w : Int) : Int := if okW w then 2 ^ w.toNat else 0
def maskS (w n : Int) : Int := if okW w then n % 2 ^ w.toNat else 0
theorem pow_small {w : Int} (h : okW w) : 0 < (2 : Int) ^ w.toNat ∧ (2 : Int) ^ w.toNat ≤ 65536 := by
  have h1 : w.toNat ≤ 16 := by unfold okW at h; omega
  have h2 : (2 : Nat) ^ w.toNat ≤ 2 ^ 16 := Nat.pow_le_pow_right (by decide) h1
  have h3 : 0 < (2 : Nat) ^ w.toNat := Nat.two_pow_pos _
  have h4 : ((2 ^ w.toNat : Nat) : Int) = (2 : Int) ^ w.toNat := by simp
  omega
theorem maskS_ok {w : Int} (h : okW w) (n : Int) : 0 ≤ maskS w n ∧ maskS w n < 2 ^ w.toNat := by
  obtain ⟨h1, h2⟩ := pow_small h
  unfold maskS
  rw [if_pos h]
  exact ⟨Int.emod_nonneg _ (by omega), Int.emod_lt_of_pos _ h1⟩
theorem maskS_id {w n : Int} (h : okW w) (h0 : 0 ≤ n) (h1 : n < 2 ^ w.toNat) : maskS w n = n := by
  unfold maskS
  rw [if_pos h]
  exact Int.emod_eq_of_lt h0 h1
theorem maskS_mask (w n : Int) : maskS w (maskS w n) = maskS w n := by
  by_cases h : okW w
  · exact maskS_id h (maskS_ok h n).1 (maskS_ok h n).2
  · unfold maskS; simp [h]
theorem tmod_mod (n s : Int) (hs : 0 < s) : (Int.tmod n s + s).tmod s = n % s := by
  have h1 := Int.tmod_lt_of_pos n hs
  have h2 : -s < Int.tmod n s := by
    have := Int.lt_tmod_of_pos n hs
    exact this
  rw [Int.tmod_eq_emod_of_nonneg (by omega), Int.add_emod_right]
  rw [Int.tmod_eq_emod]
  split
  · simp
  · rw [show ((s.natAbs : Int)) = s from Int.natAbs_of_nonneg (by omega), Int.sub_emod_right, Int.emod_emod_of_dvd n (Int.dvd_refl s)]

/-! ### Places and states -/
structure Place where
  reg : Bool
  n : Int
  secret : Bool
  deriving Inhabited, DecidableEq
instance : Row Place := ⟨fun p => [.bool p.reg, .int .i64 p.n, .bool p.secret], fun r => ⟨asBool (r.getD 0 .nilp), asInt (r.getD 1 .nilp), asBool (r.getD 2 .nilp)⟩, fun _ => rfl, 3, fun _ => rfl⟩
instance : NoRef Place := ⟨fun _ => rfl⟩
structure Obs where
  kind : Int
  at_ : Int
  deriving Inhabited, DecidableEq
instance : Row Obs := ⟨fun p => [.int .i64 p.kind, .int .i64 p.at_], fun r => ⟨asInt (r.getD 0 .nilp), asInt (r.getD 1 .nilp)⟩, fun _ => rfl, 2, fun _ => rfl⟩
instance : NoRef Obs := ⟨fun _ => rfl⟩
structure Dir where
  kind : Int
  n : Int
  deriving Inhabited, DecidableEq
instance : Row Dir := ⟨fun p => [.int .i64 p.kind, .int .i64 p.n], fun r => ⟨asInt (r.getD 0 .nilp), asInt (r.getD 1 .nilp)⟩, fun _ => rfl, 2, fun _ => rfl⟩
instance : NoRef Dir := ⟨fun _ => rfl⟩
@[simp] theorem rd_Place_reg (l : List Place) (i : Int) : asBool (List.getD (rowAt (rowsOn l) (Int.toNat i)) 0 .nilp) = (rd l i).reg := congrArg Place.reg (of_rowAt l i)
@[simp] theorem rd_Place_n (l : List Place) (i : Int) : asInt (List.getD (rowAt (rowsOn l) (Int.toNat i)) 1 .nilp) = (rd l i).n := congrArg Place.n (of_rowAt l i)
@[simp] theorem rd_Place_secret (l : List Place) (i : Int) : asBool (List.getD (rowAt (rowsOn l) (Int.toNat i)) 2 .nilp) = (rd l i).secret := congrArg Place.secret (of_rowAt l i)
@[simp] theorem rd_Obs_kind (l : List Obs) (i : Int) : asInt (List.getD (rowAt (rowsOn l) (Int.toNat i)) 0 .nilp) = (rd l i).kind := congrArg Obs.kind (of_rowAt l i)
@[simp] theorem rd_Obs_at_ (l : List Obs) (i : Int) : asInt (List.getD (rowAt (rowsOn l) (Int.toNat i)) 1 .nilp) = (rd l i).at_ := congrArg Obs.at_ (of_rowAt l i)
@[simp] theorem rd_Dir_kind (l : List Dir) (i : Int) : asInt (List.getD (rowAt (rowsOn l) (Int.toNat i)) 0 .nilp) = (rd l i).kind := congrArg Dir.kind (of_rowAt l i)
@[simp] theorem rd_Dir_n (l : List Dir) (i : Int) : asInt (List.getD (rowAt (rowsOn l) (Int.toNat i)) 1 .nilp) = (rd l i).n := congrArg Dir.n (of_rowAt l i)
structure Sta where
  r0 : Int
  r1 : Int
  r2 : Int
  r3 : Int
  mem : List Int
  stack : List Int
  pc : Int
  deriving Inhabited, DecidableEq
def Sta.cells (s : Sta) : List D := [.int .i64 s.r0, .int .i64 s.r1, .int .i64 s.r2, .int .i64 s.r3, .sl (rowsOn s.mem), .sl (rowsOn s.stack), .int .i64 s.pc]
/-- As an answer: of memory of its own. -/
def Sta.fresh (s : Sta) : List Rc := [.d (.int .i64 s.r0), .d (.int .i64 s.r1), .d (.int .i64 s.r2), .d (.int .i64 s.r3), .new 1 (rowsOn s.mem), .new 1 (rowsOn s.stack), .d (.int .i64 s.pc)]
def Sta.of : List D → Sta
  | [.int _ a, .int _ b, .int _ c, .int _ d, .sl m, .sl s, .int _ pc] => ⟨a, b, c, d, listOf Int m, listOf Int s, pc⟩
  | _ => default
@[simp] theorem Sta.of_cells (s : Sta) : Sta.of s.cells = s := by simp [Sta.of, Sta.cells]
def Sta.reg (s : Sta) (r : Int) : Int := if r = 0 then s.r0 else if r = 1 then s.r1 else if r = 2 then s.r2 else if r = 3 then s.r3 else 0
def Sta.setReg (s : Sta) (r n : Int) : Sta := if r = 0 then { s with r0 := n } else if r = 1 then { s with r1 := n } else if r = 2 then { s with r2 := n } else if r = 3 then { s with r3 := n } else s
def Prg.of : List D → Prg
  | [.int _ w, .int _ wi, .int _ fu, .int _ r0, .int _ r1, .int _ r2, .int _ r3, .sl ms, .sl ls, .sl is] => ⟨w, wi, fu, r0, r1, r2, r3, listOf PMem ms, listOf PLabel ls, listOf Ins is⟩
  | _ => default
@[simp] theorem Prg.of_cells (p : Prg) : Prg.of p.cells = p := by simp [Prg.of, Prg.cells]
theorem Prg.eta (p : Prg) : (⟨p.w, p.window, p.fuel, p.r0, p.r1, p.r2, p.r3, p.mems, p.labels, p.ins⟩ : Prg) = p := rfl
theorem Sta.eta (s : Sta) : (⟨s.r0, s.r1, s.r2, s.r3, s.mem, s.stack, s.pc⟩ : Sta) = s := rfl
def Prg.reg (p : Prg) (r : Int) : Int := if r = 0 then p.r0 else if r = 1 then p.r1 else if r = 2 then p.r2 else if r = 3 then p.r3 else 0

def cellsS : List PMem → Int
  | [] => 0
  | m :: ms => m.n + cellsS ms
def regPlace (n r : Int) : List Place := if n = 0 then [] else [⟨true, r, decide (n = 2)⟩]
def memPlace (n at_ : Int) (secret : Bool) : List Place := (List.range n.toNat).map fun (k : Nat) => ⟨false, at_ + k, secret⟩
def memPlaces : List PMem → Int → List Place
  | [], _ => []
  | m :: ms, at_ => memPlace m.n at_ m.secret ++ memPlaces ms (at_ + m.n)
def regPlaces (p : Prg) : List Place := regPlace p.r0 0 ++ regPlace p.r1 1 ++ regPlace p.r2 2 ++ regPlace p.r3 3
def placesS (p : Prg) : List Place := regPlaces p ++ memPlaces p.mems 0

/-- All numbers are such as Make's, or a text's. -/
structure Mems (ms : List PMem) : Prop where
  len : ms.length ≤ 100
  n : ∀ m ∈ ms, 0 ≤ m.n ∧ m.n ≤ 16

def putPlace (s : Sta) (q : Place) (n : Int) : Sta := if q.reg then s.setReg q.n n else { s with mem := s.mem.set q.n.toNat n }
def fillS (w : Int) : List Place → List Int → Sta → Sta
  | q :: qs, n :: ns, s => fillS w qs ns (putPlace s q (maskS w n))
  | _, _, s => s
def zeroSta (n : Nat) : Sta := ⟨0, 0, 0, 0, List.replicate n 0, [], 0⟩
def startS (p : Prg) (l : List Int) : Sta × Bool :=
  if l.length = (placesS p).length then (fillS p.w (placesS p) l (zeroSta (cellsS p.mems).toNat), true) else (zeroSta 0, false)
def numsS (s : Sta) : List Int := [s.r0, s.r1, s.r2, s.r3, (s.mem.length : Int)] ++ s.mem ++ [(s.stack.length : Int)] ++ s.stack ++ [s.pc]

/-! ### One by one -/
end Go.Proofs.YtmmlolampgnamaaDoor.Ax
end

section
/- Words: what word's and the reference's functions come to. -/
namespace Go.Proofs.YtmmlolampgnamaaDoor.Ax
open Go.RowKit
set_option linter.unusedVariables false
set_option linter.unusedSimpArgs false

def rdI1 : List A → Int
  | [.c (.int _ a)] => a
  | _ => 0
def rdI2 : List A → Int × Int
  | [.c (.int _ a), .c (.int _ b)] => (a, b)
  | _ => (0, 0)
def ai (n : Int) : A := .c (.int .i64 n)
def ri (n : Int) : RR := .c (.d (.int .i64 n))
def rb (b : Bool) : RR := .c (.d (.bool b))
def rib (x : Int × Bool) : RR := .tup [.inl (.d (.int .i64 x.1)), .inl (.d (.bool x.2))]

def c_wOk : FT Int := ⟨47, fun w => [ai w], rdI1, fun _ => True, fun w => rb (decide (okW w)), false, fun _ => rfl⟩
noncomputable def a_wOk : FnA := (fnA Tryd.prog Tryd.f47 1 []).getD ⟨0, .skip, [], []⟩
def s_wOk : Sp := spT []
theorem s_wOk_sound : s_wOk.sound Tryd.prog := spT_sound fun e he => by cases he
set_option maxRecDepth 100000 in
theorem t_wOk (w : Int) : a_wOk.start s_wOk 400 [ai w] =
(VC.br (decide ((1 : Int) ≤ w))
 (VC.ret (some (RR.c (Rc.d (D.bool (decide (w ≤ (16 : Int))))))))
 (VC.ret (some (RR.c (Rc.d (D.bool false)))))) := by kernel_rfl
theorem c_wOk_good : c_wOk.fe.Good Tryd.prog := by
  refine FT.good c_wOk ⟨Tryd.f47, by kernel_rfl, by decide +kernel, by kernel_rfl⟩ (fun w => by first | rfl | simp [c_wOk, rrRef, ri, rb, rib, Sta.fresh]) fun w hp => ?_
  refine acalls_le s_wOk_sound (fn := Tryd.f47) (a := a_wOk) (nargs := 1) (tbl := []) (by kernel_rfl) (by kernel_rfl) rfl (m := 400) ?_
  show VC.holds _ _ _ (a_wOk.start s_wOk 400 [ai w])
  rw [t_wOk]
  try simp only [asRows_sl, asInt_int, asBool_bool, asStr_str, listOf_rowsOn, List.drop_zero, Prg.eta, Sta.eta, rowsOn_length, getD_drop, Nat.reduceAdd, rd_int, rd_PMem_name, rd_PMem_secret, rd_PMem_n, rd_PLabel_name, rd_PLabel_at_, rd_Ins_kind, rd_Ins_op, rd_Ins_d, rd_Ins_aR, rd_Ins_aN, rd_Ins_bR, rd_Ins_bN, rd_Ins_name, rd_Ins_target, rd_Ent_pc, rd_Ent_val, rd_Ent_addr, rd_Ent_fro, rd_Ent_next, rd_Ent_done, rd_Ent_known, rd_Ent_fault, rd_Place_reg, rd_Place_n, rd_Place_secret, rd_Obs_kind, rd_Obs_at_, rd_Dir_kind, rd_Dir_n]
  try simp only [c_wOk] at hp
  repeat' first
    | refine br_not ?_
    | refine br_dec (fun _ => ?_) (fun _ => ?_)
    | refine br_beq (fun _ => ?_) (fun _ => ?_)
    | refine br_bne (fun _ => ?_) (fun _ => ?_)
    | refine br_holds (fun _ => ?_) (fun _ => ?_)
    | refine ⟨PreOk.mk ?_ rfl, ?_⟩
    | refine ⟨idx_ok _ _ _ rfl (by omega) (by omega), ?_⟩
    | refine ⟨okSh_ok _ _ _ (fun _ => rfl) (by omega) (by omega), ?_⟩
    | refine ⟨okSh_okD _ _ _ _ (fun _ => rfl) (by omega) (by omega), ?_⟩
    | refine ⟨aload_ok _ _ rfl (fun _ => rfl) (by omega) (by omega), ?_⟩
    | refine ⟨aload_okD _ _ _ rfl (fun _ => rfl) (by omega) (by omega), ?_⟩
    | refine ⟨astore_ok (by assumption) rfl (by omega) (by omega) (by decide), ?_⟩
    | refine ⟨app_ok (by assumption) rfl rfl (by simp only [List.length_cons, List.length_nil]; omega), ?_⟩
    | refine need_holds ?_ fun _ => ?_
    | refine all_holds fun y hy => ?_
    | refine ret_eq ?_
  · have : okW w ↔ w ≤ 16 := by unfold okW; omega
    simp only [c_wOk, rb, this]
  · have : ¬ okW w := by unfold okW; omega
    simp only [c_wOk, rb, this, decide_false]
def c_wSize : FT Int := ⟨28, fun w => [ai w], rdI1, fun _ => True, fun w => ri (sizeS w), false, fun _ => rfl⟩
noncomputable def a_wSize : FnA := (fnA Tryd.prog Tryd.f28 1 []).getD ⟨0, .skip, [], []⟩
def s_wSize : Sp := spT [c_wOk.fe]
theorem s_wSize_sound : s_wSize.sound Tryd.prog := spT_sound fun e he => by
  simp only [List.mem_cons, List.not_mem_nil, or_false] at he
  rcases he with rfl
  · exact c_wOk_good
set_option maxRecDepth 100000 in
theorem t_wSize (w : Int) : a_wSize.start s_wSize 400 [ai w] =
(VC.need (PreOk c_wOk w [A.c (D.int IntKind.i64 w)])
(VC.br (!decide (okW w))
 (VC.ret (some (RR.c (Rc.d (D.int IntKind.i64 (0 : Int))))))
 (VC.need ((0 : Int) ≤ w)
 (VC.ret (some (RR.c (Rc.d (D.int IntKind.i64 (IntKind.wrap IntKind.i64 ((1 : Int) * (2 : Int) ^ min (Int.toNat w) (64 : Nat))))))))))) := by kernel_rfl
theorem c_wSize_good : c_wSize.fe.Good Tryd.prog := by
  refine FT.good c_wSize ⟨Tryd.f28, by kernel_rfl, by decide +kernel, by kernel_rfl⟩ (fun w => by first | rfl | simp [c_wSize, rrRef, ri, rb, rib, Sta.fresh]) fun w hp => ?_
  refine acalls_le s_wSize_sound (fn := Tryd.f28) (a := a_wSize) (nargs := 1) (tbl := []) (by kernel_rfl) (by kernel_rfl) rfl (m := 400) ?_
  show VC.holds _ _ _ (a_wSize.start s_wSize 400 [ai w])
  rw [t_wSize]
  try simp only [asRows_sl, asInt_int, asBool_bool, asStr_str, listOf_rowsOn, List.drop_zero, Prg.eta, Sta.eta, rowsOn_length, getD_drop, Nat.reduceAdd, rd_int, rd_PMem_name, rd_PMem_secret, rd_PMem_n, rd_PLabel_name, rd_PLabel_at_, rd_Ins_kind, rd_Ins_op, rd_Ins_d, rd_Ins_aR, rd_Ins_aN, rd_Ins_bR, rd_Ins_bN, rd_Ins_name, rd_Ins_target, rd_Ent_pc, rd_Ent_val, rd_Ent_addr, rd_Ent_fro, rd_Ent_next, rd_Ent_done, rd_Ent_known, rd_Ent_fault, rd_Place_reg, rd_Place_n, rd_Place_secret, rd_Obs_kind, rd_Obs_at_, rd_Dir_kind, rd_Dir_n]
  try simp only [c_wSize] at hp
  repeat' first
    | refine br_not ?_
    | refine br_dec (fun _ => ?_) (fun _ => ?_)
    | refine br_beq (fun _ => ?_) (fun _ => ?_)
    | refine br_bne (fun _ => ?_) (fun _ => ?_)
    | refine br_holds (fun _ => ?_) (fun _ => ?_)
    | refine ⟨PreOk.mk ?_ rfl, ?_⟩
    | refine ⟨idx_ok _ _ _ rfl (by omega) (by omega), ?_⟩
    | refine ⟨okSh_ok _ _ _ (fun _ => rfl) (by omega) (by omega), ?_⟩
    | refine ⟨okSh_okD _ _ _ _ (fun _ => rfl) (by omega) (by omega), ?_⟩
    | refine ⟨aload_ok _ _ rfl (fun _ => rfl) (by omega) (by omega), ?_⟩
    | refine ⟨aload_okD _ _ _ rfl (fun _ => rfl) (by omega) (by omega), ?_⟩
    | refine ⟨astore_ok (by assumption) rfl (by omega) (by omega) (by decide), ?_⟩
    | refine ⟨app_ok (by assumption) rfl rfl (by simp only [List.length_cons, List.length_nil]; omega), ?_⟩
    | refine need_holds ?_ fun _ => ?_
    | refine all_holds fun y hy => ?_
    | refine ret_eq ?_
  · trivial
  · rename_i h2; unfold okW at h2; omega
  · rename_i h2 h3
    have h4 := pow_small h2
    have h5 : min w.toNat 64 = w.toNat := by unfold okW at h2; omega
    simp only [c_wSize, ri, sizeS, if_pos h2, h5, Int.one_mul]
    rw [wrap_small _ (by omega) (by omega)]
  · rename_i h2
    simp only [c_wSize, ri, sizeS, if_neg h2]
def c_wMask : FT (Int × Int) := ⟨48, fun x => [ai x.1, ai x.2], rdI2, fun _ => True, fun x => ri (maskS x.1 x.2), false, fun _ => rfl⟩
noncomputable def a_wMask : FnA := (fnA Tryd.prog Tryd.f48 2 []).getD ⟨0, .skip, [], []⟩
def s_wMask : Sp := spT [c_wOk.fe, c_wSize.fe]
theorem s_wMask_sound : s_wMask.sound Tryd.prog := spT_sound fun e he => by
  simp only [List.mem_cons, List.not_mem_nil, or_false] at he
  rcases he with rfl | rfl
  · exact c_wOk_good
  · exact c_wSize_good
set_option maxRecDepth 100000 in
theorem t_wMask (w n : Int) : a_wMask.start s_wMask 400 [ai w, ai n] =
(VC.need (PreOk c_wOk w [A.c (D.int IntKind.i64 w)])
(VC.br (!decide (okW w))
 (VC.ret (some (RR.c (Rc.d (D.int IntKind.i64 (0 : Int))))))
 (VC.need (PreOk c_wSize w [A.c (D.int IntKind.i64 w)])
 (VC.ret (some (RR.c (Rc.d (D.int IntKind.i64 (bits BinOp.and IntKind.i64 n (IntKind.wrap IntKind.i64 (sizeS w - (1 : Int)))))))))))) := by kernel_rfl
theorem c_wMask_good : c_wMask.fe.Good Tryd.prog := by
  refine FT.good c_wMask ⟨Tryd.f48, by kernel_rfl, by decide +kernel, by kernel_rfl⟩ (fun ⟨w, n⟩ => by first | rfl | simp [c_wMask, rrRef, ri, rb, rib, Sta.fresh]) fun ⟨w, n⟩ hp => ?_
  refine acalls_le s_wMask_sound (fn := Tryd.f48) (a := a_wMask) (nargs := 2) (tbl := []) (by kernel_rfl) (by kernel_rfl) rfl (m := 400) ?_
  show VC.holds _ _ _ (a_wMask.start s_wMask 400 [ai w, ai n])
  rw [t_wMask]
  try simp only [asRows_sl, asInt_int, asBool_bool, asStr_str, listOf_rowsOn, List.drop_zero, Prg.eta, Sta.eta, rowsOn_length, getD_drop, Nat.reduceAdd, rd_int, rd_PMem_name, rd_PMem_secret, rd_PMem_n, rd_PLabel_name, rd_PLabel_at_, rd_Ins_kind, rd_Ins_op, rd_Ins_d, rd_Ins_aR, rd_Ins_aN, rd_Ins_bR, rd_Ins_bN, rd_Ins_name, rd_Ins_target, rd_Ent_pc, rd_Ent_val, rd_Ent_addr, rd_Ent_fro, rd_Ent_next, rd_Ent_done, rd_Ent_known, rd_Ent_fault, rd_Place_reg, rd_Place_n, rd_Place_secret, rd_Obs_kind, rd_Obs_at_, rd_Dir_kind, rd_Dir_n]
  try simp only [c_wMask] at hp
  repeat' first
    | refine br_not ?_
    | refine br_dec (fun _ => ?_) (fun _ => ?_)
    | refine br_beq (fun _ => ?_) (fun _ => ?_)
    | refine br_bne (fun _ => ?_) (fun _ => ?_)
    | refine br_holds (fun _ => ?_) (fun _ => ?_)
    | refine ⟨PreOk.mk ?_ rfl, ?_⟩
    | refine ⟨idx_ok _ _ _ rfl (by omega) (by omega), ?_⟩
    | refine ⟨okSh_ok _ _ _ (fun _ => rfl) (by omega) (by omega), ?_⟩
    | refine ⟨okSh_okD _ _ _ _ (fun _ => rfl) (by omega) (by omega), ?_⟩
    | refine ⟨aload_ok _ _ rfl (fun _ => rfl) (by omega) (by omega), ?_⟩
    | refine ⟨aload_okD _ _ _ rfl (fun _ => rfl) (by omega) (by omega), ?_⟩
    | refine ⟨astore_ok (by assumption) rfl (by omega) (by omega) (by decide), ?_⟩
    | refine ⟨app_ok (by assumption) rfl rfl (by simp only [List.length_cons, List.length_nil]; omega), ?_⟩
    | refine need_holds ?_ fun _ => ?_
    | refine all_holds fun y hy => ?_
    | refine ret_eq ?_
  all_goals try exact trivial
  · rename_i h2
    have h4 := pow_small h2
    simp only [c_wMask, ri, maskS, if_pos h2, sizeS]
    rw [wrap_small _ (by omega) (by omega), and_mask _ _ (by unfold okW at h2; omega)]
  · rename_i h2
    simp only [c_wMask, ri, maskS, if_neg h2]
end Go.Proofs.YtmmlolampgnamaaDoor.Ax
end

section
/- Words: what the reference's functions come to. -/
namespace Go.Proofs.YtmmlolampgnamaaDoor.Ax
open Go.RowKit
set_option linter.unusedVariables false
set_option linter.unusedSimpArgs false
def c_rSize : FT Int := ⟨36, fun w => [ai w], rdI1, fun _ => True, fun w => ri (sizeS w), false, fun _ => rfl⟩
noncomputable def a_rSize : FnA := (fnA Tryd.prog Tryd.f36 1 []).getD ⟨0, .skip, [], []⟩
def s_rSize : Sp := spT []
theorem s_rSize_sound : s_rSize.sound Tryd.prog := spT_sound fun e he => by cases he
set_option maxRecDepth 100000 in
theorem t_rSize (w : Int) : a_rSize.start s_rSize 400 [ai w] =
(VC.br (decide (w < (1 : Int)))
 (VC.ret (some (RR.c (Rc.d (D.int IntKind.i64 (0 : Int))))))
 (VC.br (decide ((16 : Int) < w))
  (VC.ret (some (RR.c (Rc.d (D.int IntKind.i64 (0 : Int))))))
  (VC.need ((0 : Int) ≤ IntKind.wrap IntKind.u64 w)
  (VC.ret (some (RR.c (Rc.d (D.int IntKind.i64 (IntKind.wrap IntKind.i64 ((1 : Int) * (2 : Int) ^ min (Int.toNat (IntKind.wrap IntKind.u64 w)) (64 : Nat))))))))))) := by kernel_rfl
theorem c_rSize_good : c_rSize.fe.Good Tryd.prog := by
  refine FT.good c_rSize ⟨Tryd.f36, by kernel_rfl, by decide +kernel, by kernel_rfl⟩ (fun w => by first | rfl | simp [c_rSize, rrRef, ri, rb, rib, Sta.fresh]) fun w hp => ?_
  refine acalls_le s_rSize_sound (fn := Tryd.f36) (a := a_rSize) (nargs := 1) (tbl := []) (by kernel_rfl) (by kernel_rfl) rfl (m := 400) ?_
  show VC.holds _ _ _ (a_rSize.start s_rSize 400 [ai w])
  rw [t_rSize]
  try simp only [asRows_sl, asInt_int, asBool_bool, asStr_str, listOf_rowsOn, List.drop_zero, Prg.eta, Sta.eta, rowsOn_length, getD_drop, Nat.reduceAdd, rd_int, rd_PMem_name, rd_PMem_secret, rd_PMem_n, rd_PLabel_name, rd_PLabel_at_, rd_Ins_kind, rd_Ins_op, rd_Ins_d, rd_Ins_aR, rd_Ins_aN, rd_Ins_bR, rd_Ins_bN, rd_Ins_name, rd_Ins_target, rd_Ent_pc, rd_Ent_val, rd_Ent_addr, rd_Ent_fro, rd_Ent_next, rd_Ent_done, rd_Ent_known, rd_Ent_fault, rd_Place_reg, rd_Place_n, rd_Place_secret, rd_Obs_kind, rd_Obs_at_, rd_Dir_kind, rd_Dir_n]
  try simp only [c_rSize] at hp
  repeat' first
    | refine br_not ?_
    | refine br_dec (fun _ => ?_) (fun _ => ?_)
    | refine br_beq (fun _ => ?_) (fun _ => ?_)
    | refine br_bne (fun _ => ?_) (fun _ => ?_)
    | refine br_holds (fun _ => ?_) (fun _ => ?_)
    | refine ⟨PreOk.mk ?_ rfl, ?_⟩
    | refine ⟨idx_ok _ _ _ rfl (by omega) (by omega), ?_⟩
    | refine ⟨okSh_ok _ _ _ (fun _ => rfl) (by omega) (by omega), ?_⟩
    | refine ⟨okSh_okD _ _ _ _ (fun _ => rfl) (by omega) (by omega), ?_⟩
    | refine ⟨aload_ok _ _ rfl (fun _ => rfl) (by omega) (by omega), ?_⟩
    | refine ⟨aload_okD _ _ _ rfl (fun _ => rfl) (by omega) (by omega), ?_⟩
    | refine ⟨astore_ok (by assumption) rfl (by omega) (by omega) (by decide), ?_⟩
    | refine ⟨app_ok (by assumption) rfl rfl (by simp only [List.length_cons, List.length_nil]; omega), ?_⟩
    | refine need_holds ?_ fun _ => ?_
    | refine all_holds fun y hy => ?_
    | refine ret_eq ?_
  · rename_i h
    have : ¬ okW w := by unfold okW; omega
    simp only [c_rSize, ri, sizeS, if_neg this]
  · rename_i h1 h
    have : ¬ okW w := by unfold okW; omega
    simp only [c_rSize, ri, sizeS, if_neg this]
  · rename_i h1 h2
    have : 0 ≤ w := by omega
    rw [IntKind.wrap_u64]; omega
  · rename_i h1 h2 h3
    have h4 : okW w := by unfold okW; omega
    have h5 := pow_small h4
    have h6 : IntKind.wrap .u64 w = w := by rw [IntKind.wrap_u64]; omega
    have h7 : min w.toNat 64 = w.toNat := by omega
    simp only [c_rSize, ri, sizeS, if_pos h4, h6, h7, Int.one_mul]
    rw [wrap_small _ (by omega) (by omega)]
def c_rMask : FT (Int × Int) := ⟨39, fun x => [ai x.1, ai x.2], rdI2, fun _ => True, fun x => ri (maskS x.1 x.2), false, fun _ => rfl⟩
noncomputable def a_rMask : FnA := (fnA Tryd.prog Tryd.f39 2 []).getD ⟨0, .skip, [], []⟩
def s_rMask : Sp := spT [c_rSize.fe]
theorem s_rMask_sound : s_rMask.sound Tryd.prog := spT_sound fun e he => by
  simp only [List.mem_cons, List.not_mem_nil, or_false] at he
  rcases he with rfl
  · exact c_rSize_good
set_option maxRecDepth 100000 in
theorem t_rMask (w n : Int) : a_rMask.start s_rMask 400 [ai w, ai n] =
(VC.need (PreOk c_rSize w [A.c (D.int IntKind.i64 w)])
(VC.br (sizeS w == (0 : Int))
 (VC.ret (some (RR.c (Rc.d (D.int IntKind.i64 (0 : Int))))))
 (VC.need (sizeS w ≠ (0 : Int))
 (VC.need (sizeS w ≠ (0 : Int))
 (VC.ret (some (RR.c (Rc.d (D.int IntKind.i64 (Int.tmod (IntKind.wrap IntKind.i64 (Int.tmod n (sizeS w) + sizeS w)) (sizeS w))))))))))) := by kernel_rfl
theorem c_rMask_good : c_rMask.fe.Good Tryd.prog := by
  refine FT.good c_rMask ⟨Tryd.f39, by kernel_rfl, by decide +kernel, by kernel_rfl⟩ (fun ⟨w, n⟩ => by first | rfl | simp [c_rMask, rrRef, ri, rb, rib, Sta.fresh]) fun ⟨w, n⟩ hp => ?_
  refine acalls_le s_rMask_sound (fn := Tryd.f39) (a := a_rMask) (nargs := 2) (tbl := []) (by kernel_rfl) (by kernel_rfl) rfl (m := 400) ?_
  show VC.holds _ _ _ (a_rMask.start s_rMask 400 [ai w, ai n])
  rw [t_rMask]
  try simp only [asRows_sl, asInt_int, asBool_bool, asStr_str, listOf_rowsOn, List.drop_zero, Prg.eta, Sta.eta, rowsOn_length, getD_drop, Nat.reduceAdd, rd_int, rd_PMem_name, rd_PMem_secret, rd_PMem_n, rd_PLabel_name, rd_PLabel_at_, rd_Ins_kind, rd_Ins_op, rd_Ins_d, rd_Ins_aR, rd_Ins_aN, rd_Ins_bR, rd_Ins_bN, rd_Ins_name, rd_Ins_target, rd_Ent_pc, rd_Ent_val, rd_Ent_addr, rd_Ent_fro, rd_Ent_next, rd_Ent_done, rd_Ent_known, rd_Ent_fault, rd_Place_reg, rd_Place_n, rd_Place_secret, rd_Obs_kind, rd_Obs_at_, rd_Dir_kind, rd_Dir_n]
  try simp only [c_rMask] at hp
  repeat' first
    | refine br_not ?_
    | refine br_dec (fun _ => ?_) (fun _ => ?_)
    | refine br_beq (fun _ => ?_) (fun _ => ?_)
    | refine br_bne (fun _ => ?_) (fun _ => ?_)
    | refine br_holds (fun _ => ?_) (fun _ => ?_)
    | refine ⟨PreOk.mk ?_ rfl, ?_⟩
    | refine ⟨idx_ok _ _ _ rfl (by omega) (by omega), ?_⟩
    | refine ⟨okSh_ok _ _ _ (fun _ => rfl) (by omega) (by omega), ?_⟩
    | refine ⟨okSh_okD _ _ _ _ (fun _ => rfl) (by omega) (by omega), ?_⟩
    | refine ⟨aload_ok _ _ rfl (fun _ => rfl) (by omega) (by omega), ?_⟩
    | refine ⟨aload_okD _ _ _ rfl (fun _ => rfl) (by omega) (by omega), ?_⟩
    | refine ⟨astore_ok (by assumption) rfl (by omega) (by omega) (by decide), ?_⟩
    | refine ⟨app_ok (by assumption) rfl rfl (by simp only [List.length_cons, List.length_nil]; omega), ?_⟩
    | refine need_holds ?_ fun _ => ?_
    | refine all_holds fun y hy => ?_
    | refine ret_eq ?_
  all_goals try exact trivial
  · rename_i h
    have : ¬ okW w := fun h1 => by
      have := pow_small h1
      simp only [sizeS, if_pos h1] at h
      omega
    simp only [c_rMask, ri, maskS, if_neg this]
  · exact ‹¬ _›
  · exact ‹¬ _›
  · rename_i h1 h2 h3
    have h4 : okW w := Decidable.byContradiction fun h => h1 (by simp only [sizeS, if_neg h])
    have h5 := pow_small h4
    have h6 : sizeS w = 2 ^ w.toNat := if_pos h4
    have h7 := Int.tmod_lt_of_pos n h5.1
    have h8 := Int.lt_tmod_of_pos n h5.1
    simp only [c_rMask, ri, maskS, if_pos h4, h6]
    rw [wrap_small _ (by omega) (by omega), tmod_mod _ _ h5.1]
end Go.Proofs.YtmmlolampgnamaaDoor.Ax
end

section
/- Cells and places: what arch's and the reference's functions come to. -/
namespace Go.Proofs.YtmmlolampgnamaaDoor.Ax
open Go.RowKit
set_option linter.unusedVariables false
set_option linter.unusedSimpArgs false
def ap (p : Prg) : A := .agg p.cells
def rdP1 : List A → Prg
  | [.agg l] => Prg.of l
  | _ => default
theorem cells_drop (ms : List PMem) (k : Int) (h0 : 0 ≤ k) (h : k < ms.length) : cellsS (ms.drop k.toNat) = (rd ms k).n + cellsS (ms.drop (k + 1).toNat) := by rw [drop_rd ms k h0 h]; rfl
theorem cellsS_nonneg : ∀ {ms : List PMem}, (∀ m ∈ ms, 0 ≤ m.n ∧ m.n ≤ 16) → 0 ≤ cellsS ms ∧ cellsS ms ≤ 16 * ms.length
  | [], _ => by simp [cellsS]
  | m :: ms, h => by
    have h1 := h m (by simp)
    have h2 := cellsS_nonneg (ms := ms) fun x hx => h x (by simp [hx])
    simp only [cellsS, List.length_cons]
    omega
def c_aCells : FT Prg := ⟨40, fun p => [ap p], rdP1, fun p => Mems p.mems, fun p => ri (cellsS p.mems), false, fun p => by simp [ap, rdP1]⟩
noncomputable def a_aCells : FnA := (fnA Tryd.prog Tryd.f40 1 [(3, [3, 7, 8, 9])]).getD ⟨0, .skip, [], []⟩
def s_aCells : Sp := spT []
theorem s_aCells_sound : s_aCells.sound Tryd.prog := spT_sound fun e he => by cases he
def F_aCells (ms : List PMem) (n k : Int) : St := ⟨mkS 21 [(3, vi n), (7, vr (rowsOn ms)), (8, vi (rowsOn ms).length), (9, vi k)], []⟩
set_option maxRecDepth 100000 in
theorem t_aCells (p : Prg) : a_aCells.start s_aCells 400 [ap p] =
(FnA.at_ a_aCells 0 (F_aCells p.mems (0 : Int) (0 : Int))) := by kernel_rfl
set_option maxRecDepth 100000 in
theorem t_aCells0 (ms : List PMem) (n k : Int) : a_aCells.round s_aCells 400 0 (F_aCells ms n k) =
(VC.br (decide (k < (↑(List.length (rowsOn ms)) : Int)))
 (VC.need ((0 : Int) ≤ k ∧ k < (↑(List.length (rowsOn ms)) : Int) ∧ List.length (rowAt (rowsOn ms) (Int.toNat k)) = (3 : Nat))
 (VC.need (okSh [Kd.str, Kd.bool, Kd.int IntKind.i64] (rowAt (rowsOn ms) (Int.toNat k)))
 (FnA.at_ a_aCells 0 (F_aCells ms (IntKind.wrap IntKind.i64 (n + min (max (asInt (List.getD (rowAt (rowsOn ms) (Int.toNat k)) (2 : Nat) D.nilp)) (0 : Int)) (16 : Int))) (IntKind.wrap IntKind.i64 (k + (1 : Int)))))))
 (VC.ret (some (RR.c (Rc.d (D.int IntKind.i64 n)))))) := by kernel_rfl
theorem l_aCells (ms : List PMem) (hm : Mems ms) : ∀ i_ : Int × Int, (fun (i : Int × Int) => 0 ≤ i.2 ∧ i.2 ≤ ms.length ∧ i.1 + cellsS (ms.drop i.2.toNat) = cellsS ms ∧ 0 ≤ i.1 ∧ i.1 ≤ 16 * i.2) i_ → (a_aCells.at_ 0 ((fun (i : Int × Int) => F_aCells ms i.1 i.2) i_)).holds s_aCells.cx a_aCells.rs (fun r => r.le (ri (cellsS ms))) := by
  refine loop_rule (a := a_aCells) (j := 0) (m := 400) s_aCells_sound (fun (i : Int × Int) => F_aCells ms i.1 i.2) (fun (i : Int × Int) => 0 ≤ i.2 ∧ i.2 ≤ ms.length ∧ i.1 + cellsS (ms.drop i.2.toNat) = cellsS ms ∧ 0 ≤ i.1 ∧ i.1 ≤ 16 * i.2) (fun (i : Int × Int) => ((ms.length : Int) - i.2).toNat) ?_
  rintro ⟨n, k⟩ h_inv ih
  try dsimp only at h_inv
  replace ih := fun (v0 : Int) (v1 : Int) => ih (v0, v1)
  try dsimp only at ih
  show VC.holds _ _ _ (a_aCells.round s_aCells 400 0 (F_aCells ms n k))
  rw [t_aCells0]
  try simp only [asRows_sl, asInt_int, asBool_bool, asStr_str, listOf_rowsOn, List.drop_zero, Prg.eta, Sta.eta, rowsOn_length, getD_drop, Nat.reduceAdd, rd_int, rd_PMem_name, rd_PMem_secret, rd_PMem_n, rd_PLabel_name, rd_PLabel_at_, rd_Ins_kind, rd_Ins_op, rd_Ins_d, rd_Ins_aR, rd_Ins_aN, rd_Ins_bR, rd_Ins_bN, rd_Ins_name, rd_Ins_target, rd_Ent_pc, rd_Ent_val, rd_Ent_addr, rd_Ent_fro, rd_Ent_next, rd_Ent_done, rd_Ent_known, rd_Ent_fault, rd_Place_reg, rd_Place_n, rd_Place_secret, rd_Obs_kind, rd_Obs_at_, rd_Dir_kind, rd_Dir_n]
  obtain ⟨h0, h1, h2, h3, h4⟩ := h_inv
  have hlen := hm.len
  repeat' first
    | refine br_not ?_
    | refine br_dec (fun _ => ?_) (fun _ => ?_)
    | refine br_beq (fun _ => ?_) (fun _ => ?_)
    | refine br_bne (fun _ => ?_) (fun _ => ?_)
    | refine br_holds (fun _ => ?_) (fun _ => ?_)
    | refine ⟨PreOk.mk ?_ rfl, ?_⟩
    | refine ⟨idx_ok _ _ _ rfl (by omega) (by omega), ?_⟩
    | refine ⟨okSh_ok _ _ _ (fun _ => rfl) (by omega) (by omega), ?_⟩
    | refine ⟨okSh_okD _ _ _ _ (fun _ => rfl) (by omega) (by omega), ?_⟩
    | refine ⟨aload_ok _ _ rfl (fun _ => rfl) (by omega) (by omega), ?_⟩
    | refine ⟨aload_okD _ _ _ rfl (fun _ => rfl) (by omega) (by omega), ?_⟩
    | refine ⟨astore_ok (by assumption) rfl (by omega) (by omega) (by decide), ?_⟩
    | refine ⟨app_ok (by assumption) rfl rfl (by simp only [List.length_cons, List.length_nil]; omega), ?_⟩
    | refine need_holds ?_ fun _ => ?_
    | refine all_holds fun y hy => ?_
    | refine ret_eq ?_
    | refine ih _ _ ?_ ?_
  · have h5 := hm.n _ (rd_mem ms k h0 ‹_›)
    rw [cells_drop ms k h0 ‹_›] at h2
    rw [wrap_small (k + 1) (by omega) (by omega), wrap_small _ (by omega) (by omega)]
    omega
  · rw [wrap_small (k + 1) (by omega) (by omega)]; omega
  · have hk : k.toNat = ms.length := by omega
    rw [hk, List.drop_length] at h2
    simp only [cellsS] at h2
    rw [show n = cellsS ms by omega]; rfl
theorem c_aCells_good : c_aCells.fe.Good Tryd.prog := by
  refine FT.good c_aCells ⟨Tryd.f40, by kernel_rfl, by decide +kernel, by kernel_rfl⟩ (fun p => by first | rfl | simp [c_aCells, rrRef, ri, rb, rib, Sta.fresh]) fun p hp => ?_
  refine acalls_le s_aCells_sound (fn := Tryd.f40) (a := a_aCells) (nargs := 1) (tbl := [(3, [3, 7, 8, 9])]) (by kernel_rfl) (by kernel_rfl) rfl (m := 400) ?_
  show VC.holds _ _ _ (a_aCells.start s_aCells 400 [ap p])
  rw [t_aCells]
  try simp only [asRows_sl, asInt_int, asBool_bool, asStr_str, listOf_rowsOn, List.drop_zero, Prg.eta, Sta.eta, rowsOn_length, getD_drop, Nat.reduceAdd, rd_int, rd_PMem_name, rd_PMem_secret, rd_PMem_n, rd_PLabel_name, rd_PLabel_at_, rd_Ins_kind, rd_Ins_op, rd_Ins_d, rd_Ins_aR, rd_Ins_aN, rd_Ins_bR, rd_Ins_bN, rd_Ins_name, rd_Ins_target, rd_Ent_pc, rd_Ent_val, rd_Ent_addr, rd_Ent_fro, rd_Ent_next, rd_Ent_done, rd_Ent_known, rd_Ent_fault, rd_Place_reg, rd_Place_n, rd_Place_secret, rd_Obs_kind, rd_Obs_at_, rd_Dir_kind, rd_Dir_n]
  try simp only [c_aCells] at hp
  exact l_aCells p.mems hp (0, 0) (by simp)
def c_rCells : FT Prg := ⟨38, fun p => [ap p], rdP1, fun p => Mems p.mems, fun p => ri (cellsS p.mems), false, fun p => by simp [ap, rdP1]⟩
noncomputable def a_rCells : FnA := (fnA Tryd.prog Tryd.f38 1 [(3, [1, 3, 4])]).getD ⟨0, .skip, [], []⟩
def s_rCells : Sp := spT []
theorem s_rCells_sound : s_rCells.sound Tryd.prog := spT_sound fun e he => by cases he
def F_rCells (p : Prg) (n k : Int) : St := ⟨mkS 21 [(1, vp 64), (3, vi n), (4, vi k)], [(64, bx p.cells)]⟩
set_option maxRecDepth 100000 in
theorem t_rCells (p : Prg) : a_rCells.start s_rCells 400 [ap p] =
(FnA.at_ a_rCells 0 (F_rCells p (0 : Int) (0 : Int))) := by kernel_rfl
set_option maxRecDepth 100000 in
theorem t_rCells0 (p : Prg) (n k : Int) : a_rCells.round s_rCells 400 0 (F_rCells p n k) =
(VC.br (decide (k < (↑(List.length (rowsOn p.mems)) : Int)))
 (VC.need ((0 : Int) ≤ k ∧ k < (↑(List.length (rowsOn p.mems)) : Int) ∧ List.length (rowAt (rowsOn p.mems) (Int.toNat k)) = (3 : Nat))
 (VC.need (okSh [Kd.int IntKind.i64] (List.drop (2 : Nat) (rowAt (rowsOn p.mems) (Int.toNat k))))
 (FnA.at_ a_rCells 0 (F_rCells p (IntKind.wrap IntKind.i64 (n + asInt (List.getD (List.drop (2 : Nat) (rowAt (rowsOn p.mems) (Int.toNat k))) (0 : Nat) D.nilp))) (IntKind.wrap IntKind.i64 (k + (1 : Int)))))))
 (VC.ret (some (RR.c (Rc.d (D.int IntKind.i64 n)))))) := by kernel_rfl
theorem l_rCells (p : Prg) (hm : Mems p.mems) : ∀ i_ : Int × Int, (fun (i : Int × Int) => 0 ≤ i.2 ∧ i.2 ≤ p.mems.length ∧ i.1 + cellsS (p.mems.drop i.2.toNat) = cellsS p.mems ∧ 0 ≤ i.1 ∧ i.1 ≤ 16 * i.2) i_ → (a_rCells.at_ 0 ((fun (i : Int × Int) => F_rCells p i.1 i.2) i_)).holds s_rCells.cx a_rCells.rs (fun r => r.le (ri (cellsS p.mems))) := by
  refine loop_rule (a := a_rCells) (j := 0) (m := 400) s_rCells_sound (fun (i : Int × Int) => F_rCells p i.1 i.2) (fun (i : Int × Int) => 0 ≤ i.2 ∧ i.2 ≤ p.mems.length ∧ i.1 + cellsS (p.mems.drop i.2.toNat) = cellsS p.mems ∧ 0 ≤ i.1 ∧ i.1 ≤ 16 * i.2) (fun (i : Int × Int) => ((p.mems.length : Int) - i.2).toNat) ?_
  rintro ⟨n, k⟩ h_inv ih
  try dsimp only at h_inv
  replace ih := fun (v0 : Int) (v1 : Int) => ih (v0, v1)
  try dsimp only at ih
  show VC.holds _ _ _ (a_rCells.round s_rCells 400 0 (F_rCells p n k))
  rw [t_rCells0]
  try simp only [asRows_sl, asInt_int, asBool_bool, asStr_str, listOf_rowsOn, List.drop_zero, Prg.eta, Sta.eta, rowsOn_length, getD_drop, Nat.reduceAdd, rd_int, rd_PMem_name, rd_PMem_secret, rd_PMem_n, rd_PLabel_name, rd_PLabel_at_, rd_Ins_kind, rd_Ins_op, rd_Ins_d, rd_Ins_aR, rd_Ins_aN, rd_Ins_bR, rd_Ins_bN, rd_Ins_name, rd_Ins_target, rd_Ent_pc, rd_Ent_val, rd_Ent_addr, rd_Ent_fro, rd_Ent_next, rd_Ent_done, rd_Ent_known, rd_Ent_fault, rd_Place_reg, rd_Place_n, rd_Place_secret, rd_Obs_kind, rd_Obs_at_, rd_Dir_kind, rd_Dir_n]
  obtain ⟨h0, h1, h2, h3, h4⟩ := h_inv
  have hlen := hm.len
  repeat' first
    | refine br_not ?_
    | refine br_dec (fun _ => ?_) (fun _ => ?_)
    | refine br_beq (fun _ => ?_) (fun _ => ?_)
    | refine br_bne (fun _ => ?_) (fun _ => ?_)
    | refine br_holds (fun _ => ?_) (fun _ => ?_)
    | refine ⟨PreOk.mk ?_ rfl, ?_⟩
    | refine ⟨idx_ok _ _ _ rfl (by omega) (by omega), ?_⟩
    | refine ⟨okSh_ok _ _ _ (fun _ => rfl) (by omega) (by omega), ?_⟩
    | refine ⟨okSh_okD _ _ _ _ (fun _ => rfl) (by omega) (by omega), ?_⟩
    | refine ⟨aload_ok _ _ rfl (fun _ => rfl) (by omega) (by omega), ?_⟩
    | refine ⟨aload_okD _ _ _ rfl (fun _ => rfl) (by omega) (by omega), ?_⟩
    | refine ⟨astore_ok (by assumption) rfl (by omega) (by omega) (by decide), ?_⟩
    | refine ⟨app_ok (by assumption) rfl rfl (by simp only [List.length_cons, List.length_nil]; omega), ?_⟩
    | refine need_holds ?_ fun _ => ?_
    | refine all_holds fun y hy => ?_
    | refine ret_eq ?_
    | refine ih _ _ ?_ ?_
  · have h5 := hm.n _ (rd_mem p.mems k h0 ‹_›)
    rw [cells_drop p.mems k h0 ‹_›] at h2
    rw [wrap_small (k + 1) (by omega) (by omega), wrap_small _ (by omega) (by omega)]
    omega
  · rw [wrap_small (k + 1) (by omega) (by omega)]; omega
  · have hk : k.toNat = p.mems.length := by omega
    rw [hk, List.drop_length] at h2
    simp only [cellsS] at h2
    rw [show n = cellsS p.mems by omega]; rfl
theorem c_rCells_good : c_rCells.fe.Good Tryd.prog := by
  refine FT.good c_rCells ⟨Tryd.f38, by kernel_rfl, by decide +kernel, by kernel_rfl⟩ (fun p => by first | rfl | simp [c_rCells, rrRef, ri, rb, rib, Sta.fresh]) fun p hp => ?_
  refine acalls_le s_rCells_sound (fn := Tryd.f38) (a := a_rCells) (nargs := 1) (tbl := [(3, [1, 3, 4])]) (by kernel_rfl) (by kernel_rfl) rfl (m := 400) ?_
  show VC.holds _ _ _ (a_rCells.start s_rCells 400 [ap p])
  rw [t_rCells]
  try simp only [asRows_sl, asInt_int, asBool_bool, asStr_str, listOf_rowsOn, List.drop_zero, Prg.eta, Sta.eta, rowsOn_length, getD_drop, Nat.reduceAdd, rd_int, rd_PMem_name, rd_PMem_secret, rd_PMem_n, rd_PLabel_name, rd_PLabel_at_, rd_Ins_kind, rd_Ins_op, rd_Ins_d, rd_Ins_aR, rd_Ins_aN, rd_Ins_bR, rd_Ins_bN, rd_Ins_name, rd_Ins_target, rd_Ent_pc, rd_Ent_val, rd_Ent_addr, rd_Ent_fro, rd_Ent_next, rd_Ent_done, rd_Ent_known, rd_Ent_fault, rd_Place_reg, rd_Place_n, rd_Place_secret, rd_Obs_kind, rd_Obs_at_, rd_Dir_kind, rd_Dir_n]
  try simp only [c_rCells] at hp
  exact l_rCells p hp (0, 0) (by simp)
end Go.Proofs.YtmmlolampgnamaaDoor.Ax
end

section
/- Places: what arch's and the reference's functions come to. -/
namespace Go.Proofs.YtmmlolampgnamaaDoor.Ax
open Go.RowKit
set_option linter.unusedVariables false
set_option linter.unusedSimpArgs false
def regFrom (p : Prg) (i : Int) : List Place :=
  if i ≤ 0 then regPlaces p else if i = 1 then regPlace p.r1 1 ++ (regPlace p.r2 2 ++ regPlace p.r3 3) else if i = 2 then regPlace p.r2 2 ++ regPlace p.r3 3 else if i = 3 then regPlace p.r3 3 else []
theorem regFrom0 (p : Prg) : regFrom p 0 = regPlace p.r0 0 ++ regFrom p 1 := by simp [regFrom, regPlaces, List.append_assoc]
theorem regFrom1 (p : Prg) : regFrom p 1 = regPlace p.r1 1 ++ regFrom p 2 := by simp [regFrom]
theorem regFrom2 (p : Prg) : regFrom p 2 = regPlace p.r2 2 ++ regFrom p 3 := by simp [regFrom]
theorem regFrom3 (p : Prg) : regFrom p 3 = regPlace p.r3 3 ++ regFrom p 4 := by simp [regFrom]
theorem regFrom4 (p : Prg) : regFrom p 4 = [] := by simp [regFrom]
theorem regPlace_ne {n : Int} (h : ¬ n = 0) (r : Int) : regPlace n r = [⟨true, r, n == 2⟩] := by
  unfold regPlace
  rw [if_neg h]
  by_cases h2 : n = 2 <;> simp [h2]
theorem regPlace_eq {n : Int} (h : n = 0) (r : Int) : regPlace n r = [] := if_pos h
theorem memPlace_succ {n at_ : Int} (s : Bool) (h : 0 < n) : memPlace n at_ s = ⟨false, at_, s⟩ :: memPlace (n - 1) (at_ + 1) s := by
  unfold memPlace
  have : n.toNat = (n - 1).toNat + 1 := by omega
  rw [this, List.range_succ_eq_map, List.map_cons, List.map_map]
  congr 1
  · simp
  · refine List.map_congr_left fun k _ => ?_
    simp only [Function.comp, Place.mk.injEq, and_true, true_and]
    omega
theorem memPlace_zero {n at_ : Int} (s : Bool) (h : n ≤ 0) : memPlace n at_ s = [] := by
  unfold memPlace
  have : n.toNat = 0 := by omega
  rw [this]; rfl
theorem memPlaces_drop (ms : List PMem) (k at_ : Int) (h0 : 0 ≤ k) (h : k < ms.length) : memPlaces (ms.drop k.toNat) at_ = memPlace (rd ms k).n at_ (rd ms k).secret ++ memPlaces (ms.drop (k + 1).toNat) (at_ + (rd ms k).n) := by
  rw [drop_rd ms k h0 h]; rfl
def rplaces (l : List Place) : RR := .c (.new 3 (rowsOn l))
def c_aPlaces : FT Prg := ⟨21, fun p => [ap p], rdP1, fun p => Mems p.mems, fun p => rplaces (placesS p), false, fun p => by simp [ap, rdP1]⟩
noncomputable def a_aPlaces : FnA := (fnA Tryd.prog Tryd.f21 1 [(3, [1, 3, 10, 11, 1000003000000900001003]), (10, [3, 6, 26, 27, 28, 1000003000000900001003]), (13, [3, 6, 8, 26, 27, 28, 35, 36, 1000003000000900001003])]).getD ⟨0, .skip, [], []⟩
def s_aPlaces : Sp := spT []
theorem s_aPlaces_sound : s_aPlaces.sound Tryd.prog := spT_sound fun e he => by cases he
def F_aPl0 (p : Prg) (i : Int) (R : List (List D)) (n : Nat) : St := ⟨mkS 50 [(1, vp 64), (3, vo 900001 n), (10, .agg [.d (.int .i64 p.r0), .d (.int .i64 p.r1), .d (.int .i64 p.r2), .d (.int .i64 p.r3)]), (11, vi i)], [(64, bx p.cells), (900001, ba 3 R)]⟩
def F_aPl1 (ms : List PMem) (at_ k : Int) (R : List (List D)) (n : Nat) : St := ⟨mkS 50 [(3, vo 900001 n), (6, vi at_), (26, vr (rowsOn ms)), (27, vi (rowsOn ms).length), (28, vi k)], [(900001, ba 3 R)]⟩
def F_aPl2 (ms : List PMem) (k : Int) (nm : ByteArray) (sec : Bool) (mn b : Int) (at_ j : Int) (R : List (List D)) (n : Nat) : St := ⟨mkS 50 [(3, vo 900001 n), (6, vi at_), (8, vp 512), (26, vr (rowsOn ms)), (27, vi (rowsOn ms).length), (28, vi k), (35, vi b), (36, vi j)], [(512, bx [.str nm, .bool sec, .int .i64 mn]), (900001, ba 3 R)]⟩
set_option maxRecDepth 100000 in
theorem t_aPlaces (p : Prg) : a_aPlaces.start s_aPlaces 400 [ap p] =
(FnA.at_ a_aPlaces 0 (F_aPl0 p (0 : Int) [] (0 : Nat))) := by kernel_rfl
set_option maxRecDepth 100000 in
theorem t_aPl0 (p : Prg) (i : Int) (R : List (List D)) (n : Nat) : a_aPlaces.round s_aPlaces 400 0 (F_aPl0 p i R n) =
(VC.br (decide (i < (4 : Int)))
 (VC.br (decide (i = (0 : Int)))
  (VC.br (p.r0 != (0 : Int))
   (VC.need ((List.all [[D.bool true, D.int IntKind.i64 i, D.bool (p.r0 == (2 : Int))]] fun r ↦ List.length r == (3 : Nat)) = true ∧ (List.all R fun r ↦ List.length r == (3 : Nat)) = true ∧ (List.length R + List.length [[D.bool true, D.int IntKind.i64 i, D.bool (p.r0 == (2 : Int))]] + (100 : Nat)) * (25 : Nat) ≤ (70368744177664 : Nat))
   (FnA.at_ a_aPlaces 0 (F_aPl0 p (IntKind.wrap IntKind.i64 (i + (1 : Int))) (R ++ [[D.bool true, D.int IntKind.i64 i, D.bool (p.r0 == (2 : Int))]]) (List.length R + List.length [[D.bool true, D.int IntKind.i64 i, D.bool (p.r0 == (2 : Int))]]))))
   (FnA.at_ a_aPlaces 0 (F_aPl0 p (IntKind.wrap IntKind.i64 (i + (1 : Int))) R n)))
  (VC.br (decide (i = (1 : Int)))
   (VC.br (p.r1 != (0 : Int))
    (VC.need ((List.all [[D.bool true, D.int IntKind.i64 i, D.bool (p.r1 == (2 : Int))]] fun r ↦ List.length r == (3 : Nat)) = true ∧ (List.all R fun r ↦ List.length r == (3 : Nat)) = true ∧ (List.length R + List.length [[D.bool true, D.int IntKind.i64 i, D.bool (p.r1 == (2 : Int))]] + (100 : Nat)) * (25 : Nat) ≤ (70368744177664 : Nat))
    (FnA.at_ a_aPlaces 0 (F_aPl0 p (IntKind.wrap IntKind.i64 (i + (1 : Int))) (R ++ [[D.bool true, D.int IntKind.i64 i, D.bool (p.r1 == (2 : Int))]]) (List.length R + List.length [[D.bool true, D.int IntKind.i64 i, D.bool (p.r1 == (2 : Int))]]))))
    (FnA.at_ a_aPlaces 0 (F_aPl0 p (IntKind.wrap IntKind.i64 (i + (1 : Int))) R n)))
   (VC.br (decide (i = (2 : Int)))
    (VC.br (p.r2 != (0 : Int))
     (VC.need ((List.all [[D.bool true, D.int IntKind.i64 i, D.bool (p.r2 == (2 : Int))]] fun r ↦ List.length r == (3 : Nat)) = true ∧ (List.all R fun r ↦ List.length r == (3 : Nat)) = true ∧ (List.length R + List.length [[D.bool true, D.int IntKind.i64 i, D.bool (p.r2 == (2 : Int))]] + (100 : Nat)) * (25 : Nat) ≤ (70368744177664 : Nat))
     (FnA.at_ a_aPlaces 0 (F_aPl0 p (IntKind.wrap IntKind.i64 (i + (1 : Int))) (R ++ [[D.bool true, D.int IntKind.i64 i, D.bool (p.r2 == (2 : Int))]]) (List.length R + List.length [[D.bool true, D.int IntKind.i64 i, D.bool (p.r2 == (2 : Int))]]))))
     (FnA.at_ a_aPlaces 0 (F_aPl0 p (IntKind.wrap IntKind.i64 (i + (1 : Int))) R n)))
    (VC.br (decide (i = (3 : Int)))
     (VC.br (p.r3 != (0 : Int))
      (VC.need ((List.all [[D.bool true, D.int IntKind.i64 i, D.bool (p.r3 == (2 : Int))]] fun r ↦ List.length r == (3 : Nat)) = true ∧ (List.all R fun r ↦ List.length r == (3 : Nat)) = true ∧ (List.length R + List.length [[D.bool true, D.int IntKind.i64 i, D.bool (p.r3 == (2 : Int))]] + (100 : Nat)) * (25 : Nat) ≤ (70368744177664 : Nat))
      (FnA.at_ a_aPlaces 0 (F_aPl0 p (IntKind.wrap IntKind.i64 (i + (1 : Int))) (R ++ [[D.bool true, D.int IntKind.i64 i, D.bool (p.r3 == (2 : Int))]]) (List.length R + List.length [[D.bool true, D.int IntKind.i64 i, D.bool (p.r3 == (2 : Int))]]))))
      (FnA.at_ a_aPlaces 0 (F_aPl0 p (IntKind.wrap IntKind.i64 (i + (1 : Int))) R n)))
     VC.ff))))
 (FnA.at_ a_aPlaces 1 (F_aPl1 p.mems (0 : Int) (0 : Int) R n))) := by kernel_rfl
set_option maxRecDepth 100000 in
theorem t_aPl1 (ms : List PMem) (at_ k : Int) (R : List (List D)) (n : Nat) : a_aPlaces.round s_aPlaces 400 1 (F_aPl1 ms at_ k R n) =
(VC.br (decide (k < (↑(List.length (rowsOn ms)) : Int)))
 (VC.need ((0 : Int) ≤ k ∧ k < (↑(List.length (rowsOn ms)) : Int) ∧ List.length (rowAt (rowsOn ms) (Int.toNat k)) = (3 : Nat))
 (VC.need (okSh [Kd.str, Kd.bool, Kd.int IntKind.i64] (rowAt (rowsOn ms) (Int.toNat k)))
 (FnA.at_ a_aPlaces 2 (F_aPl2 ms k (asStr (List.getD (rowAt (rowsOn ms) (Int.toNat k)) (0 : Nat) D.nilp)) (asBool (List.getD (rowAt (rowsOn ms) (Int.toNat k)) (1 : Nat) D.nilp)) (asInt (List.getD (rowAt (rowsOn ms) (Int.toNat k)) (2 : Nat) D.nilp)) (min (max (asInt (List.getD (rowAt (rowsOn ms) (Int.toNat k)) (2 : Nat) D.nilp)) (0 : Int)) (16 : Int)) at_ (0 : Int) R n))))
 (VC.ret (some (RR.c (Rc.new (3 : Nat) R))))) := by kernel_rfl
set_option maxRecDepth 100000 in
theorem t_aPl2 (ms : List PMem) (k : Int) (nm : ByteArray) (sec : Bool) (mn b : Int) (at_ j : Int) (R : List (List D)) (n : Nat) : a_aPlaces.round s_aPlaces 400 2 (F_aPl2 ms k nm sec mn b at_ j R n) =
(VC.br (decide (j < b))
 (VC.need ((List.all [[D.bool false, D.int IntKind.i64 at_, D.bool sec]] fun r ↦ List.length r == (3 : Nat)) = true ∧ (List.all R fun r ↦ List.length r == (3 : Nat)) = true ∧ (List.length R + List.length [[D.bool false, D.int IntKind.i64 at_, D.bool sec]] + (100 : Nat)) * (25 : Nat) ≤ (70368744177664 : Nat))
 (FnA.at_ a_aPlaces 2 (F_aPl2 ms k nm sec mn b (IntKind.wrap IntKind.i64 (at_ + (1 : Int))) (IntKind.wrap IntKind.i64 (j + (1 : Int))) (R ++ [[D.bool false, D.int IntKind.i64 at_, D.bool sec]]) (List.length R + List.length [[D.bool false, D.int IntKind.i64 at_, D.bool sec]]))))
 (FnA.at_ a_aPlaces 1 (F_aPl1 ms at_ (IntKind.wrap IntKind.i64 (k + (1 : Int))) R n))) := by kernel_rfl
theorem l_aPl2 (ms : List PMem) (k : Int) (nm : ByteArray) (sec : Bool) (mn b : Int) (Q : RR → Prop) (tot : List Place) (hk : 0 ≤ k ∧ k < ms.length ∧ ms.length ≤ 100) (hb : b ≤ 16)
    (hnext : ∀ at_ R n l, OnL R n l → l ++ memPlaces (ms.drop (k + 1).toNat) at_ = tot → 0 ≤ at_ → at_ ≤ 16 * (k + 1) → l.length ≤ 16 * (k + 2) → (a_aPlaces.at_ 1 (F_aPl1 ms at_ (k + 1) R n)).holds s_aPlaces.cx a_aPlaces.rs Q) :
    ∀ at_ j R n l, OnL R n l → l ++ (memPlace (b - j) at_ sec ++ memPlaces (ms.drop (k + 1).toNat) (at_ + (b - j))) = tot → 0 ≤ j → j ≤ b → 0 ≤ at_ → at_ ≤ 16 * k + j → l.length ≤ 16 * (k + 1) + j →
      (a_aPlaces.at_ 2 (F_aPl2 ms k nm sec mn b at_ j R n)).holds s_aPlaces.cx a_aPlaces.rs Q := by
  have key := loop_rule (a := a_aPlaces) (j := 2) (m := 400) (R := Q) s_aPlaces_sound (fun (i : Int × Int × List (List D) × Nat × List Place) => F_aPl2 ms k nm sec mn b i.1 i.2.1 i.2.2.1 i.2.2.2.1)
    (fun i => OnL i.2.2.1 i.2.2.2.1 i.2.2.2.2 ∧ i.2.2.2.2 ++ (memPlace (b - i.2.1) i.1 sec ++ memPlaces (ms.drop (k + 1).toNat) (i.1 + (b - i.2.1))) = tot ∧ 0 ≤ i.2.1 ∧ i.2.1 ≤ b ∧ 0 ≤ i.1 ∧ i.1 ≤ 16 * k + i.2.1 ∧ i.2.2.2.2.length ≤ 16 * (k + 1) + i.2.1) (fun i => (b - i.2.1).toNat) ?_
  · exact fun at_ j R n l h1 h2 h3 h4 h5 h6 h7 => key (at_, j, R, n, l) ⟨h1, h2, h3, h4, h5, h6, h7⟩
  rintro ⟨at_, j, R, n, l⟩ ⟨h1, h2, h3, h4, h5, h6, h7⟩ ih
  replace ih := fun v0 v1 v2 v3 v4 => ih (v0, v1, v2, v3, v4)
  dsimp only at h1 h2 h3 h4 h5 h6 h7 ih
  show VC.holds _ _ _ (a_aPlaces.round s_aPlaces 400 2 (F_aPl2 ms k nm sec mn b at_ j R n))
  rw [t_aPl2]
  have w1 : IntKind.wrap .i64 (k + 1) = k + 1 := wrap_small _ (by omega) (by omega)
  have w2 : IntKind.wrap .i64 (j + 1) = j + 1 := wrap_small _ (by omega) (by omega)
  have w3 : IntKind.wrap .i64 (at_ + 1) = at_ + 1 := wrap_small _ (by omega) (by omega)
  rw [w1, w2, w3]
  repeat' first
    | refine br_not ?_
    | refine br_dec (fun _ => ?_) (fun _ => ?_)
    | refine br_beq (fun _ => ?_) (fun _ => ?_)
    | refine br_bne (fun _ => ?_) (fun _ => ?_)
    | refine br_holds (fun _ => ?_) (fun _ => ?_)
    | refine ⟨PreOk.mk ?_ rfl, ?_⟩
    | refine ⟨idx_ok _ _ _ rfl (by omega) (by omega), ?_⟩
    | refine ⟨okSh_ok _ _ _ (fun _ => rfl) (by omega) (by omega), ?_⟩
    | refine ⟨okSh_okD _ _ _ _ (fun _ => rfl) (by omega) (by omega), ?_⟩
    | refine ⟨aload_ok _ _ rfl (fun _ => rfl) (by omega) (by omega), ?_⟩
    | refine ⟨aload_okD _ _ _ rfl (fun _ => rfl) (by omega) (by omega), ?_⟩
    | refine ⟨astore_ok (by assumption) rfl (by omega) (by omega) (by decide), ?_⟩
    | refine ⟨app_ok (by assumption) rfl rfl (by simp only [List.length_cons, List.length_nil]; omega), ?_⟩
    | refine need_holds ?_ fun _ => ?_
    | refine all_holds fun y hy => ?_
    | refine ret_eq ?_
  · have hj : j < b := by assumption
    refine ih _ _ _ _ (l ++ [⟨false, at_, sec⟩]) ⟨OnL.snoc h1 (⟨false, at_, sec⟩ : Place), ?_, by omega, by omega, by omega, by omega, ?_⟩ (by omega)
    · rw [memPlace_succ sec (by omega)] at h2
      rw [List.append_assoc, show b - (j + 1) = b - j - 1 by omega, show at_ + 1 + (b - j - 1) = at_ + (b - j) by omega]
      simpa using h2
    · simp; omega
  · have hj : j = b := by omega
    subst hj
    rw [memPlace_zero sec (by omega), List.nil_append, Int.sub_self, Int.add_zero] at h2
    exact hnext _ _ _ l h1 h2 (by omega) (by omega) (by omega)
theorem l_aPl1 (ms : List PMem) (hm : Mems ms) (tot : List Place) : ∀ i_ : Int × Int × List (List D) × Nat × List Place, (fun (i : Int × Int × List (List D) × Nat × List Place) => OnL i.2.2.1 i.2.2.2.1 i.2.2.2.2 ∧ i.2.2.2.2 ++ memPlaces (ms.drop i.2.1.toNat) i.1 = tot ∧ 0 ≤ i.2.1 ∧ i.2.1 ≤ ms.length ∧ 0 ≤ i.1 ∧ i.1 ≤ 16 * i.2.1 ∧ i.2.2.2.2.length ≤ 16 * (i.2.1 + 1)) i_ → (a_aPlaces.at_ 1 ((fun (i : Int × Int × List (List D) × Nat × List Place) => F_aPl1 ms i.1 i.2.1 i.2.2.1 i.2.2.2.1) i_)).holds s_aPlaces.cx a_aPlaces.rs (fun r => r.le (rplaces tot)) := by
  refine loop_rule (a := a_aPlaces) (j := 1) (m := 400) s_aPlaces_sound (fun (i : Int × Int × List (List D) × Nat × List Place) => F_aPl1 ms i.1 i.2.1 i.2.2.1 i.2.2.2.1) (fun (i : Int × Int × List (List D) × Nat × List Place) => OnL i.2.2.1 i.2.2.2.1 i.2.2.2.2 ∧ i.2.2.2.2 ++ memPlaces (ms.drop i.2.1.toNat) i.1 = tot ∧ 0 ≤ i.2.1 ∧ i.2.1 ≤ ms.length ∧ 0 ≤ i.1 ∧ i.1 ≤ 16 * i.2.1 ∧ i.2.2.2.2.length ≤ 16 * (i.2.1 + 1)) (fun (i : Int × Int × List (List D) × Nat × List Place) => ((ms.length : Int) - i.2.1).toNat) ?_
  rintro ⟨at_, k, R, n, l⟩ h_inv ih
  try dsimp only at h_inv
  replace ih := fun (v0 : Int) (v1 : Int) (v2 : List (List D)) (v3 : Nat) (v4 : List Place) => ih (v0, v1, v2, v3, v4)
  try dsimp only at ih
  show VC.holds _ _ _ (a_aPlaces.round s_aPlaces 400 1 (F_aPl1 ms at_ k R n))
  rw [t_aPl1]
  try simp only [asRows_sl, asInt_int, asBool_bool, asStr_str, listOf_rowsOn, List.drop_zero, Prg.eta, Sta.eta, rowsOn_length, getD_drop, Nat.reduceAdd, rd_int, rd_PMem_name, rd_PMem_secret, rd_PMem_n, rd_PLabel_name, rd_PLabel_at_, rd_Ins_kind, rd_Ins_op, rd_Ins_d, rd_Ins_aR, rd_Ins_aN, rd_Ins_bR, rd_Ins_bN, rd_Ins_name, rd_Ins_target, rd_Ent_pc, rd_Ent_val, rd_Ent_addr, rd_Ent_fro, rd_Ent_next, rd_Ent_done, rd_Ent_known, rd_Ent_fault, rd_Place_reg, rd_Place_n, rd_Place_secret, rd_Obs_kind, rd_Obs_at_, rd_Dir_kind, rd_Dir_n]
  obtain ⟨h1, h2, h3, h4, h5, h6, h7⟩ := h_inv
  have hlen := hm.len
  repeat' first
    | refine br_not ?_
    | refine br_dec (fun _ => ?_) (fun _ => ?_)
    | refine br_beq (fun _ => ?_) (fun _ => ?_)
    | refine br_bne (fun _ => ?_) (fun _ => ?_)
    | refine br_holds (fun _ => ?_) (fun _ => ?_)
    | refine ⟨PreOk.mk ?_ rfl, ?_⟩
    | refine ⟨idx_ok _ _ _ rfl (by omega) (by omega), ?_⟩
    | refine ⟨okSh_ok _ _ _ (fun _ => rfl) (by omega) (by omega), ?_⟩
    | refine ⟨okSh_okD _ _ _ _ (fun _ => rfl) (by omega) (by omega), ?_⟩
    | refine ⟨aload_ok _ _ rfl (fun _ => rfl) (by omega) (by omega), ?_⟩
    | refine ⟨aload_okD _ _ _ rfl (fun _ => rfl) (by omega) (by omega), ?_⟩
    | refine ⟨astore_ok (by assumption) rfl (by omega) (by omega) (by decide), ?_⟩
    | refine ⟨app_ok (by assumption) rfl rfl (by simp only [List.length_cons, List.length_nil]; omega), ?_⟩
    | refine need_holds ?_ fun _ => ?_
    | refine all_holds fun y hy => ?_
    | refine ret_eq ?_
  · have hk : k < ms.length := by assumption
    have h8 := hm.n _ (rd_mem ms k h3 hk)
    have e : min (max (rd ms k).n 0) 16 = (rd ms k).n := by omega
    rw [e]
    refine l_aPl2 ms k _ _ _ (rd ms k).n _ tot ⟨h3, hk, hlen⟩ h8.2 (fun at' R' n' l' g1 g2 g3 g4 g5 => ih _ _ _ _ l' ⟨g1, g2, by omega, by omega, g3, g4, by omega⟩ (by omega)) _ _ _ _ l h1 ?_ (by omega) h8.1 h5 (by omega) (by omega)
    rw [Int.sub_zero, ← memPlaces_drop ms k at_ h3 hk]
    exact h2
  · have hk : k.toNat = ms.length := by omega
    rw [hk, List.drop_length] at h2
    simp only [memPlaces, List.append_nil] at h2
    subst h2
    exact congrArg _ (congrArg _ h1.1)
theorem l_aPl0 (p : Prg) (hm : Mems p.mems) : ∀ i_ : Int × List (List D) × Nat, (fun (i : Int × List (List D) × Nat) => 0 ≤ i.1 ∧ i.1 ≤ 4 ∧ ∃ l, OnL i.2.1 i.2.2 l ∧ l ++ regFrom p i.1 = regPlaces p ∧ l.length ≤ i.1) i_ → (a_aPlaces.at_ 0 ((fun (i : Int × List (List D) × Nat) => F_aPl0 p i.1 i.2.1 i.2.2) i_)).holds s_aPlaces.cx a_aPlaces.rs (fun r => r.le (rplaces (placesS p))) := by
  refine loop_rule (a := a_aPlaces) (j := 0) (m := 400) s_aPlaces_sound (fun (i : Int × List (List D) × Nat) => F_aPl0 p i.1 i.2.1 i.2.2) (fun (i : Int × List (List D) × Nat) => 0 ≤ i.1 ∧ i.1 ≤ 4 ∧ ∃ l, OnL i.2.1 i.2.2 l ∧ l ++ regFrom p i.1 = regPlaces p ∧ l.length ≤ i.1) (fun (i : Int × List (List D) × Nat) => (4 - i.1).toNat) ?_
  rintro ⟨i, R, n⟩ h_inv ih
  try dsimp only at h_inv
  replace ih := fun (v0 : Int) (v1 : List (List D)) (v2 : Nat) => ih (v0, v1, v2)
  try dsimp only at ih
  show VC.holds _ _ _ (a_aPlaces.round s_aPlaces 400 0 (F_aPl0 p i R n))
  rw [t_aPl0]
  try simp only [asRows_sl, asInt_int, asBool_bool, asStr_str, listOf_rowsOn, List.drop_zero, Prg.eta, Sta.eta, rowsOn_length, getD_drop, Nat.reduceAdd, rd_int, rd_PMem_name, rd_PMem_secret, rd_PMem_n, rd_PLabel_name, rd_PLabel_at_, rd_Ins_kind, rd_Ins_op, rd_Ins_d, rd_Ins_aR, rd_Ins_aN, rd_Ins_bR, rd_Ins_bN, rd_Ins_name, rd_Ins_target, rd_Ent_pc, rd_Ent_val, rd_Ent_addr, rd_Ent_fro, rd_Ent_next, rd_Ent_done, rd_Ent_known, rd_Ent_fault, rd_Place_reg, rd_Place_n, rd_Place_secret, rd_Obs_kind, rd_Obs_at_, rd_Dir_kind, rd_Dir_n]
  obtain ⟨h3, h4, l, h1, h2, h5⟩ := h_inv
  have w1 : IntKind.wrap .i64 (i + 1) = i + 1 := wrap_small _ (by omega) (by omega)
  rw [w1]
  repeat' first
    | refine br_not ?_
    | refine br_dec (fun _ => ?_) (fun _ => ?_)
    | refine br_beq (fun _ => ?_) (fun _ => ?_)
    | refine br_bne (fun _ => ?_) (fun _ => ?_)
    | refine br_holds (fun _ => ?_) (fun _ => ?_)
    | refine ⟨PreOk.mk ?_ rfl, ?_⟩
    | refine ⟨idx_ok _ _ _ rfl (by omega) (by omega), ?_⟩
    | refine ⟨okSh_ok _ _ _ (fun _ => rfl) (by omega) (by omega), ?_⟩
    | refine ⟨okSh_okD _ _ _ _ (fun _ => rfl) (by omega) (by omega), ?_⟩
    | refine ⟨aload_ok _ _ rfl (fun _ => rfl) (by omega) (by omega), ?_⟩
    | refine ⟨aload_okD _ _ _ rfl (fun _ => rfl) (by omega) (by omega), ?_⟩
    | refine ⟨astore_ok (by assumption) rfl (by omega) (by omega) (by decide), ?_⟩
    | refine ⟨app_ok (by assumption) rfl rfl (by simp only [List.length_cons, List.length_nil]; omega), ?_⟩
    | refine need_holds ?_ fun _ => ?_
    | refine all_holds fun y hy => ?_
    | refine ret_eq ?_
    | refine ih _ _ _ ?_ ?_
  all_goals try omega
  all_goals try subst i
  all_goals first
    | rw [regFrom0] at h2
    | rw [regFrom1] at h2
    | rw [regFrom2] at h2
    | rw [regFrom3] at h2
    | skip
  all_goals first
    | rw [regPlace_ne ‹¬ _ = (0 : Int)›] at h2
    | rw [regPlace_eq ‹_›, List.nil_append] at h2
    | skip
  all_goals try exact ⟨by omega, by omega, l ++ [_], OnL.snoc h1 (⟨true, _, _⟩ : Place), by rw [List.append_assoc]; exact h2, by simp; omega⟩
  all_goals try exact ⟨by omega, by omega, l, h1, h2, by omega⟩
  · have hi : i = 4 := by omega
    subst hi
    rw [regFrom4, List.append_nil] at h2
    subst h2
    refine l_aPl1 p.mems hm (placesS p) (0, 0, R, n, regPlaces p) ⟨h1, rfl, by simp, by simp, by simp, by simp, by simp; omega⟩
theorem c_aPlaces_good : c_aPlaces.fe.Good Tryd.prog := by
  refine FT.good c_aPlaces ⟨Tryd.f21, by kernel_rfl, by decide +kernel, by kernel_rfl⟩ (fun p => by first | rfl | simp [c_aPlaces, rrRef, ri, rb, rib, rplaces, Sta.fresh]) fun p hp => ?_
  refine acalls_le s_aPlaces_sound (fn := Tryd.f21) (a := a_aPlaces) (nargs := 1) (tbl := [(3, [1, 3, 10, 11, 1000003000000900001003]), (10, [3, 6, 26, 27, 28, 1000003000000900001003]), (13, [3, 6, 8, 26, 27, 28, 35, 36, 1000003000000900001003])]) (by kernel_rfl) (by kernel_rfl) rfl (m := 400) ?_
  show VC.holds _ _ _ (a_aPlaces.start s_aPlaces 400 [ap p])
  rw [t_aPlaces]
  try simp only [asRows_sl, asInt_int, asBool_bool, asStr_str, listOf_rowsOn, List.drop_zero, Prg.eta, Sta.eta, rowsOn_length, getD_drop, Nat.reduceAdd, rd_int, rd_PMem_name, rd_PMem_secret, rd_PMem_n, rd_PLabel_name, rd_PLabel_at_, rd_Ins_kind, rd_Ins_op, rd_Ins_d, rd_Ins_aR, rd_Ins_aN, rd_Ins_bR, rd_Ins_bN, rd_Ins_name, rd_Ins_target, rd_Ent_pc, rd_Ent_val, rd_Ent_addr, rd_Ent_fro, rd_Ent_next, rd_Ent_done, rd_Ent_known, rd_Ent_fault, rd_Place_reg, rd_Place_n, rd_Place_secret, rd_Obs_kind, rd_Obs_at_, rd_Dir_kind, rd_Dir_n]
  try simp only [c_aPlaces] at hp
  exact l_aPl0 p hp (0, [], 0) ⟨by simp, by simp, [], OnL.nil, rfl, by simp⟩
def c_rPlaces : FT Prg := ⟨18, fun p => [ap p], rdP1, fun p => Mems p.mems, fun p => rplaces (placesS p), false, fun p => by simp [ap, rdP1]⟩
noncomputable def a_rPlaces : FnA := (fnA Tryd.prog Tryd.f18 1 [(3, [1, 3, 4, 1000003000000900001003]), (9, [1, 3, 5, 6, 1000003000000900001003]), (12, [1, 3, 5, 6, 7, 1000003000000900001003])]).getD ⟨0, .skip, [], []⟩
def s_rPlaces : Sp := spT []
theorem s_rPlaces_sound : s_rPlaces.sound Tryd.prog := spT_sound fun e he => by cases he
def F_rPl0 (p : Prg) (i : Int) (R : List (List D)) (n : Nat) : St := ⟨mkS 58 [(1, vp 64), (3, vo 900001 n), (4, vi i)], [(64, bx p.cells), (900001, ba 3 R)]⟩
def F_rPl1 (p : Prg) (at_ k : Int) (R : List (List D)) (n : Nat) : St := ⟨mkS 58 [(1, vp 64), (3, vo 900001 n), (5, vi at_), (6, vi k)], [(64, bx p.cells), (900001, ba 3 R)]⟩
def F_rPl2 (p : Prg) (k : Int) (at_ j : Int) (R : List (List D)) (n : Nat) : St := ⟨mkS 58 [(1, vp 64), (3, vo 900001 n), (5, vi at_), (6, vi k), (7, vi j)], [(64, bx p.cells), (900001, ba 3 R)]⟩
set_option maxRecDepth 100000 in
theorem t_rPlaces (p : Prg) : a_rPlaces.start s_rPlaces 400 [ap p] =
(FnA.at_ a_rPlaces 0 (F_rPl0 p (0 : Int) [] (0 : Nat))) := by kernel_rfl
set_option maxRecDepth 100000 in
theorem t_rPl0 (p : Prg) (i : Int) (R : List (List D)) (n : Nat) : a_rPlaces.round s_rPlaces 400 0 (F_rPl0 p i R n) =
(VC.br (decide (i < (4 : Int)))
 (VC.br (decide (i = (0 : Int)))
  (VC.br (p.r0 != (0 : Int))
   (VC.br (decide (i = (0 : Int)))
    (VC.need ((List.all [[D.bool true, D.int IntKind.i64 i, D.bool (p.r0 == (2 : Int))]] fun r ↦ List.length r == (3 : Nat)) = true ∧ (List.all R fun r ↦ List.length r == (3 : Nat)) = true ∧ (List.length R + List.length [[D.bool true, D.int IntKind.i64 i, D.bool (p.r0 == (2 : Int))]] + (100 : Nat)) * (25 : Nat) ≤ (70368744177664 : Nat))
    (FnA.at_ a_rPlaces 0 (F_rPl0 p (IntKind.wrap IntKind.i64 (i + (1 : Int))) (R ++ [[D.bool true, D.int IntKind.i64 i, D.bool (p.r0 == (2 : Int))]]) (List.length R + List.length [[D.bool true, D.int IntKind.i64 i, D.bool (p.r0 == (2 : Int))]]))))
    (VC.br (decide (i = (1 : Int)))
     (VC.need ((List.all [[D.bool true, D.int IntKind.i64 i, D.bool (p.r1 == (2 : Int))]] fun r ↦ List.length r == (3 : Nat)) = true ∧ (List.all R fun r ↦ List.length r == (3 : Nat)) = true ∧ (List.length R + List.length [[D.bool true, D.int IntKind.i64 i, D.bool (p.r1 == (2 : Int))]] + (100 : Nat)) * (25 : Nat) ≤ (70368744177664 : Nat))
     (FnA.at_ a_rPlaces 0 (F_rPl0 p (IntKind.wrap IntKind.i64 (i + (1 : Int))) (R ++ [[D.bool true, D.int IntKind.i64 i, D.bool (p.r1 == (2 : Int))]]) (List.length R + List.length [[D.bool true, D.int IntKind.i64 i, D.bool (p.r1 == (2 : Int))]]))))
     (VC.br (decide (i = (2 : Int)))
      (VC.need ((List.all [[D.bool true, D.int IntKind.i64 i, D.bool (p.r2 == (2 : Int))]] fun r ↦ List.length r == (3 : Nat)) = true ∧ (List.all R fun r ↦ List.length r == (3 : Nat)) = true ∧ (List.length R + List.length [[D.bool true, D.int IntKind.i64 i, D.bool (p.r2 == (2 : Int))]] + (100 : Nat)) * (25 : Nat) ≤ (70368744177664 : Nat))
      (FnA.at_ a_rPlaces 0 (F_rPl0 p (IntKind.wrap IntKind.i64 (i + (1 : Int))) (R ++ [[D.bool true, D.int IntKind.i64 i, D.bool (p.r2 == (2 : Int))]]) (List.length R + List.length [[D.bool true, D.int IntKind.i64 i, D.bool (p.r2 == (2 : Int))]]))))
      (VC.br (decide (i = (3 : Int)))
       (VC.need ((List.all [[D.bool true, D.int IntKind.i64 i, D.bool (p.r3 == (2 : Int))]] fun r ↦ List.length r == (3 : Nat)) = true ∧ (List.all R fun r ↦ List.length r == (3 : Nat)) = true ∧ (List.length R + List.length [[D.bool true, D.int IntKind.i64 i, D.bool (p.r3 == (2 : Int))]] + (100 : Nat)) * (25 : Nat) ≤ (70368744177664 : Nat))
       (FnA.at_ a_rPlaces 0 (F_rPl0 p (IntKind.wrap IntKind.i64 (i + (1 : Int))) (R ++ [[D.bool true, D.int IntKind.i64 i, D.bool (p.r3 == (2 : Int))]]) (List.length R + List.length [[D.bool true, D.int IntKind.i64 i, D.bool (p.r3 == (2 : Int))]]))))
       VC.ff))))
   (FnA.at_ a_rPlaces 0 (F_rPl0 p (IntKind.wrap IntKind.i64 (i + (1 : Int))) R n)))
  (VC.br (decide (i = (1 : Int)))
   (VC.br (p.r1 != (0 : Int))
    (VC.br (decide (i = (0 : Int)))
     (VC.need ((List.all [[D.bool true, D.int IntKind.i64 i, D.bool (p.r0 == (2 : Int))]] fun r ↦ List.length r == (3 : Nat)) = true ∧ (List.all R fun r ↦ List.length r == (3 : Nat)) = true ∧ (List.length R + List.length [[D.bool true, D.int IntKind.i64 i, D.bool (p.r0 == (2 : Int))]] + (100 : Nat)) * (25 : Nat) ≤ (70368744177664 : Nat))
     (FnA.at_ a_rPlaces 0 (F_rPl0 p (IntKind.wrap IntKind.i64 (i + (1 : Int))) (R ++ [[D.bool true, D.int IntKind.i64 i, D.bool (p.r0 == (2 : Int))]]) (List.length R + List.length [[D.bool true, D.int IntKind.i64 i, D.bool (p.r0 == (2 : Int))]]))))
     (VC.br (decide (i = (1 : Int)))
      (VC.need ((List.all [[D.bool true, D.int IntKind.i64 i, D.bool (p.r1 == (2 : Int))]] fun r ↦ List.length r == (3 : Nat)) = true ∧ (List.all R fun r ↦ List.length r == (3 : Nat)) = true ∧ (List.length R + List.length [[D.bool true, D.int IntKind.i64 i, D.bool (p.r1 == (2 : Int))]] + (100 : Nat)) * (25 : Nat) ≤ (70368744177664 : Nat))
      (FnA.at_ a_rPlaces 0 (F_rPl0 p (IntKind.wrap IntKind.i64 (i + (1 : Int))) (R ++ [[D.bool true, D.int IntKind.i64 i, D.bool (p.r1 == (2 : Int))]]) (List.length R + List.length [[D.bool true, D.int IntKind.i64 i, D.bool (p.r1 == (2 : Int))]]))))
      (VC.br (decide (i = (2 : Int)))
       (VC.need ((List.all [[D.bool true, D.int IntKind.i64 i, D.bool (p.r2 == (2 : Int))]] fun r ↦ List.length r == (3 : Nat)) = true ∧ (List.all R fun r ↦ List.length r == (3 : Nat)) = true ∧ (List.length R + List.length [[D.bool true, D.int IntKind.i64 i, D.bool (p.r2 == (2 : Int))]] + (100 : Nat)) * (25 : Nat) ≤ (70368744177664 : Nat))
       (FnA.at_ a_rPlaces 0 (F_rPl0 p (IntKind.wrap IntKind.i64 (i + (1 : Int))) (R ++ [[D.bool true, D.int IntKind.i64 i, D.bool (p.r2 == (2 : Int))]]) (List.length R + List.length [[D.bool true, D.int IntKind.i64 i, D.bool (p.r2 == (2 : Int))]]))))
       (VC.br (decide (i = (3 : Int)))
        (VC.need ((List.all [[D.bool true, D.int IntKind.i64 i, D.bool (p.r3 == (2 : Int))]] fun r ↦ List.length r == (3 : Nat)) = true ∧ (List.all R fun r ↦ List.length r == (3 : Nat)) = true ∧ (List.length R + List.length [[D.bool true, D.int IntKind.i64 i, D.bool (p.r3 == (2 : Int))]] + (100 : Nat)) * (25 : Nat) ≤ (70368744177664 : Nat))
        (FnA.at_ a_rPlaces 0 (F_rPl0 p (IntKind.wrap IntKind.i64 (i + (1 : Int))) (R ++ [[D.bool true, D.int IntKind.i64 i, D.bool (p.r3 == (2 : Int))]]) (List.length R + List.length [[D.bool true, D.int IntKind.i64 i, D.bool (p.r3 == (2 : Int))]]))))
        VC.ff))))
    (FnA.at_ a_rPlaces 0 (F_rPl0 p (IntKind.wrap IntKind.i64 (i + (1 : Int))) R n)))
   (VC.br (decide (i = (2 : Int)))
    (VC.br (p.r2 != (0 : Int))
     (VC.br (decide (i = (0 : Int)))
      (VC.need ((List.all [[D.bool true, D.int IntKind.i64 i, D.bool (p.r0 == (2 : Int))]] fun r ↦ List.length r == (3 : Nat)) = true ∧ (List.all R fun r ↦ List.length r == (3 : Nat)) = true ∧ (List.length R + List.length [[D.bool true, D.int IntKind.i64 i, D.bool (p.r0 == (2 : Int))]] + (100 : Nat)) * (25 : Nat) ≤ (70368744177664 : Nat))
      (FnA.at_ a_rPlaces 0 (F_rPl0 p (IntKind.wrap IntKind.i64 (i + (1 : Int))) (R ++ [[D.bool true, D.int IntKind.i64 i, D.bool (p.r0 == (2 : Int))]]) (List.length R + List.length [[D.bool true, D.int IntKind.i64 i, D.bool (p.r0 == (2 : Int))]]))))
      (VC.br (decide (i = (1 : Int)))
       (VC.need ((List.all [[D.bool true, D.int IntKind.i64 i, D.bool (p.r1 == (2 : Int))]] fun r ↦ List.length r == (3 : Nat)) = true ∧ (List.all R fun r ↦ List.length r == (3 : Nat)) = true ∧ (List.length R + List.length [[D.bool true, D.int IntKind.i64 i, D.bool (p.r1 == (2 : Int))]] + (100 : Nat)) * (25 : Nat) ≤ (70368744177664 : Nat))
       (FnA.at_ a_rPlaces 0 (F_rPl0 p (IntKind.wrap IntKind.i64 (i + (1 : Int))) (R ++ [[D.bool true, D.int IntKind.i64 i, D.bool (p.r1 == (2 : Int))]]) (List.length R + List.length [[D.bool true, D.int IntKind.i64 i, D.bool (p.r1 == (2 : Int))]]))))
       (VC.br (decide (i = (2 : Int)))
        (VC.need ((List.all [[D.bool true, D.int IntKind.i64 i, D.bool (p.r2 == (2 : Int))]] fun r ↦ List.length r == (3 : Nat)) = true ∧ (List.all R fun r ↦ List.length r == (3 : Nat)) = true ∧ (List.length R + List.length [[D.bool true, D.int IntKind.i64 i, D.bool (p.r2 == (2 : Int))]] + (100 : Nat)) * (25 : Nat) ≤ (70368744177664 : Nat))
        (FnA.at_ a_rPlaces 0 (F_rPl0 p (IntKind.wrap IntKind.i64 (i + (1 : Int))) (R ++ [[D.bool true, D.int IntKind.i64 i, D.bool (p.r2 == (2 : Int))]]) (List.length R + List.length [[D.bool true, D.int IntKind.i64 i, D.bool (p.r2 == (2 : Int))]]))))
        (VC.br (decide (i = (3 : Int)))
         (VC.need ((List.all [[D.bool true, D.int IntKind.i64 i, D.bool (p.r3 == (2 : Int))]] fun r ↦ List.length r == (3 : Nat)) = true ∧ (List.all R fun r ↦ List.length r == (3 : Nat)) = true ∧ (List.length R + List.length [[D.bool true, D.int IntKind.i64 i, D.bool (p.r3 == (2 : Int))]] + (100 : Nat)) * (25 : Nat) ≤ (70368744177664 : Nat))
         (FnA.at_ a_rPlaces 0 (F_rPl0 p (IntKind.wrap IntKind.i64 (i + (1 : Int))) (R ++ [[D.bool true, D.int IntKind.i64 i, D.bool (p.r3 == (2 : Int))]]) (List.length R + List.length [[D.bool true, D.int IntKind.i64 i, D.bool (p.r3 == (2 : Int))]]))))
         VC.ff))))
     (FnA.at_ a_rPlaces 0 (F_rPl0 p (IntKind.wrap IntKind.i64 (i + (1 : Int))) R n)))
    (VC.br (decide (i = (3 : Int)))
     (VC.br (p.r3 != (0 : Int))
      (VC.br (decide (i = (0 : Int)))
       (VC.need ((List.all [[D.bool true, D.int IntKind.i64 i, D.bool (p.r0 == (2 : Int))]] fun r ↦ List.length r == (3 : Nat)) = true ∧ (List.all R fun r ↦ List.length r == (3 : Nat)) = true ∧ (List.length R + List.length [[D.bool true, D.int IntKind.i64 i, D.bool (p.r0 == (2 : Int))]] + (100 : Nat)) * (25 : Nat) ≤ (70368744177664 : Nat))
       (FnA.at_ a_rPlaces 0 (F_rPl0 p (IntKind.wrap IntKind.i64 (i + (1 : Int))) (R ++ [[D.bool true, D.int IntKind.i64 i, D.bool (p.r0 == (2 : Int))]]) (List.length R + List.length [[D.bool true, D.int IntKind.i64 i, D.bool (p.r0 == (2 : Int))]]))))
       (VC.br (decide (i = (1 : Int)))
        (VC.need ((List.all [[D.bool true, D.int IntKind.i64 i, D.bool (p.r1 == (2 : Int))]] fun r ↦ List.length r == (3 : Nat)) = true ∧ (List.all R fun r ↦ List.length r == (3 : Nat)) = true ∧ (List.length R + List.length [[D.bool true, D.int IntKind.i64 i, D.bool (p.r1 == (2 : Int))]] + (100 : Nat)) * (25 : Nat) ≤ (70368744177664 : Nat))
        (FnA.at_ a_rPlaces 0 (F_rPl0 p (IntKind.wrap IntKind.i64 (i + (1 : Int))) (R ++ [[D.bool true, D.int IntKind.i64 i, D.bool (p.r1 == (2 : Int))]]) (List.length R + List.length [[D.bool true, D.int IntKind.i64 i, D.bool (p.r1 == (2 : Int))]]))))
        (VC.br (decide (i = (2 : Int)))
         (VC.need ((List.all [[D.bool true, D.int IntKind.i64 i, D.bool (p.r2 == (2 : Int))]] fun r ↦ List.length r == (3 : Nat)) = true ∧ (List.all R fun r ↦ List.length r == (3 : Nat)) = true ∧ (List.length R + List.length [[D.bool true, D.int IntKind.i64 i, D.bool (p.r2 == (2 : Int))]] + (100 : Nat)) * (25 : Nat) ≤ (70368744177664 : Nat))
         (FnA.at_ a_rPlaces 0 (F_rPl0 p (IntKind.wrap IntKind.i64 (i + (1 : Int))) (R ++ [[D.bool true, D.int IntKind.i64 i, D.bool (p.r2 == (2 : Int))]]) (List.length R + List.length [[D.bool true, D.int IntKind.i64 i, D.bool (p.r2 == (2 : Int))]]))))
         (VC.br (decide (i = (3 : Int)))
          (VC.need ((List.all [[D.bool true, D.int IntKind.i64 i, D.bool (p.r3 == (2 : Int))]] fun r ↦ List.length r == (3 : Nat)) = true ∧ (List.all R fun r ↦ List.length r == (3 : Nat)) = true ∧ (List.length R + List.length [[D.bool true, D.int IntKind.i64 i, D.bool (p.r3 == (2 : Int))]] + (100 : Nat)) * (25 : Nat) ≤ (70368744177664 : Nat))
          (FnA.at_ a_rPlaces 0 (F_rPl0 p (IntKind.wrap IntKind.i64 (i + (1 : Int))) (R ++ [[D.bool true, D.int IntKind.i64 i, D.bool (p.r3 == (2 : Int))]]) (List.length R + List.length [[D.bool true, D.int IntKind.i64 i, D.bool (p.r3 == (2 : Int))]]))))
          VC.ff))))
      (FnA.at_ a_rPlaces 0 (F_rPl0 p (IntKind.wrap IntKind.i64 (i + (1 : Int))) R n)))
     VC.ff))))
 (FnA.at_ a_rPlaces 1 (F_rPl1 p (0 : Int) (0 : Int) R n))) := by kernel_rfl
set_option maxRecDepth 100000 in
theorem t_rPl1 (p : Prg) (at_ k : Int) (R : List (List D)) (n : Nat) : a_rPlaces.round s_rPlaces 400 1 (F_rPl1 p at_ k R n) =
(VC.br (decide (k < (↑(List.length (rowsOn p.mems)) : Int)))
 (FnA.at_ a_rPlaces 2 (F_rPl2 p k at_ (0 : Int) R n))
 (VC.ret (some (RR.c (Rc.new (3 : Nat) R))))) := by kernel_rfl
set_option maxRecDepth 100000 in
theorem t_rPl2 (p : Prg) (k : Int) (at_ j : Int) (R : List (List D)) (n : Nat) : a_rPlaces.round s_rPlaces 400 2 (F_rPl2 p k at_ j R n) =
(VC.need ((0 : Int) ≤ k ∧ k < (↑(List.length (rowsOn p.mems)) : Int) ∧ List.length (rowAt (rowsOn p.mems) (Int.toNat k)) = (3 : Nat))
(VC.need (okSh [Kd.int IntKind.i64] (List.drop (2 : Nat) (rowAt (rowsOn p.mems) (Int.toNat k))))
(VC.br (decide (j < asInt (List.getD (List.drop (2 : Nat) (rowAt (rowsOn p.mems) (Int.toNat k))) (0 : Nat) D.nilp)))
 (VC.need ((0 : Int) ≤ k ∧ k < (↑(List.length (rowsOn p.mems)) : Int) ∧ List.length (rowAt (rowsOn p.mems) (Int.toNat k)) = (3 : Nat))
 (VC.need (okSh [Kd.bool] (List.drop (1 : Nat) (rowAt (rowsOn p.mems) (Int.toNat k))))
 (VC.need ((List.all [[D.bool false, D.int IntKind.i64 at_, D.bool (asBool (List.getD (List.drop (1 : Nat) (rowAt (rowsOn p.mems) (Int.toNat k))) (0 : Nat) D.nilp))]] fun r ↦ List.length r == (3 : Nat)) = true ∧ (List.all R fun r ↦ List.length r == (3 : Nat)) = true ∧ (List.length R + List.length [[D.bool false, D.int IntKind.i64 at_, D.bool (asBool (List.getD (List.drop (1 : Nat) (rowAt (rowsOn p.mems) (Int.toNat k))) (0 : Nat) D.nilp))]] + (100 : Nat)) * (25 : Nat) ≤ (70368744177664 : Nat))
 (FnA.at_ a_rPlaces 2 (F_rPl2 p k (IntKind.wrap IntKind.i64 (at_ + (1 : Int))) (IntKind.wrap IntKind.i64 (j + (1 : Int))) (R ++ [[D.bool false, D.int IntKind.i64 at_, D.bool (asBool (List.getD (List.drop (1 : Nat) (rowAt (rowsOn p.mems) (Int.toNat k))) (0 : Nat) D.nilp))]]) (List.length R + List.length [[D.bool false, D.int IntKind.i64 at_, D.bool (asBool (List.getD (List.drop (1 : Nat) (rowAt (rowsOn p.mems) (Int.toNat k))) (0 : Nat) D.nilp))]]))))))
 (FnA.at_ a_rPlaces 1 (F_rPl1 p at_ (IntKind.wrap IntKind.i64 (k + (1 : Int))) R n))))) := by kernel_rfl
theorem l_rPl2 (p : Prg) (hm : Mems p.mems) (k : Int) (Q : RR → Prop) (tot : List Place) (hk0 : 0 ≤ k) (hk : k < p.mems.length)
    (hnext : ∀ at_ R n l, OnL R n l → l ++ memPlaces (p.mems.drop (k + 1).toNat) at_ = tot → 0 ≤ at_ → at_ ≤ 16 * (k + 1) → l.length ≤ 16 * (k + 2) → (a_rPlaces.at_ 1 (F_rPl1 p at_ (k + 1) R n)).holds s_rPlaces.cx a_rPlaces.rs Q) :
    ∀ at_ j R n l, OnL R n l → l ++ (memPlace ((rd p.mems k).n - j) at_ (rd p.mems k).secret ++ memPlaces (p.mems.drop (k + 1).toNat) (at_ + ((rd p.mems k).n - j))) = tot → 0 ≤ j → j ≤ (rd p.mems k).n → 0 ≤ at_ → at_ ≤ 16 * k + j → l.length ≤ 16 * (k + 1) + j →
      (a_rPlaces.at_ 2 (F_rPl2 p k at_ j R n)).holds s_rPlaces.cx a_rPlaces.rs Q := by
  have hlen := hm.len
  have hb := (hm.n _ (rd_mem p.mems k hk0 hk)).2
  have key := loop_rule (a := a_rPlaces) (j := 2) (m := 400) (R := Q) s_rPlaces_sound (fun (i : Int × Int × List (List D) × Nat × List Place) => F_rPl2 p k i.1 i.2.1 i.2.2.1 i.2.2.2.1)
    (fun i => OnL i.2.2.1 i.2.2.2.1 i.2.2.2.2 ∧ i.2.2.2.2 ++ (memPlace ((rd p.mems k).n - i.2.1) i.1 (rd p.mems k).secret ++ memPlaces (p.mems.drop (k + 1).toNat) (i.1 + ((rd p.mems k).n - i.2.1))) = tot ∧ 0 ≤ i.2.1 ∧ i.2.1 ≤ (rd p.mems k).n ∧ 0 ≤ i.1 ∧ i.1 ≤ 16 * k + i.2.1 ∧ i.2.2.2.2.length ≤ 16 * (k + 1) + i.2.1) (fun i => ((rd p.mems k).n - i.2.1).toNat) ?_
  · exact fun at_ j R n l h1 h2 h3 h4 h5 h6 h7 => key (at_, j, R, n, l) ⟨h1, h2, h3, h4, h5, h6, h7⟩
  rintro ⟨at_, j, R, n, l⟩ ⟨h1, h2, h3, h4, h5, h6, h7⟩ ih
  replace ih := fun v0 v1 v2 v3 v4 => ih (v0, v1, v2, v3, v4)
  dsimp only at h1 h2 h3 h4 h5 h6 h7 ih
  show VC.holds _ _ _ (a_rPlaces.round s_rPlaces 400 2 (F_rPl2 p k at_ j R n))
  rw [t_rPl2]
  have w1 : IntKind.wrap .i64 (k + 1) = k + 1 := wrap_small _ (by omega) (by omega)
  have w2 : IntKind.wrap .i64 (j + 1) = j + 1 := wrap_small _ (by omega) (by omega)
  have w3 : IntKind.wrap .i64 (at_ + 1) = at_ + 1 := wrap_small _ (by omega) (by omega)
  rw [w1, w2, w3]
  simp only [asRows_sl, asInt_int, asBool_bool, asStr_str, listOf_rowsOn, List.drop_zero, Prg.eta, Sta.eta, rowsOn_length, getD_drop, Nat.reduceAdd, rd_int, rd_PMem_name, rd_PMem_secret, rd_PMem_n, rd_PLabel_name, rd_PLabel_at_, rd_Ins_kind, rd_Ins_op, rd_Ins_d, rd_Ins_aR, rd_Ins_aN, rd_Ins_bR, rd_Ins_bN, rd_Ins_name, rd_Ins_target, rd_Ent_pc, rd_Ent_val, rd_Ent_addr, rd_Ent_fro, rd_Ent_next, rd_Ent_done, rd_Ent_known, rd_Ent_fault, rd_Place_reg, rd_Place_n, rd_Place_secret, rd_Obs_kind, rd_Obs_at_, rd_Dir_kind, rd_Dir_n]
  repeat' first
    | refine br_not ?_
    | refine br_dec (fun _ => ?_) (fun _ => ?_)
    | refine br_beq (fun _ => ?_) (fun _ => ?_)
    | refine br_bne (fun _ => ?_) (fun _ => ?_)
    | refine br_holds (fun _ => ?_) (fun _ => ?_)
    | refine ⟨PreOk.mk ?_ rfl, ?_⟩
    | refine ⟨idx_ok _ _ _ rfl (by omega) (by omega), ?_⟩
    | refine ⟨okSh_ok _ _ _ (fun _ => rfl) (by omega) (by omega), ?_⟩
    | refine ⟨okSh_okD _ _ _ _ (fun _ => rfl) (by omega) (by omega), ?_⟩
    | refine ⟨aload_ok _ _ rfl (fun _ => rfl) (by omega) (by omega), ?_⟩
    | refine ⟨aload_okD _ _ _ rfl (fun _ => rfl) (by omega) (by omega), ?_⟩
    | refine ⟨astore_ok (by assumption) rfl (by omega) (by omega) (by decide), ?_⟩
    | refine ⟨app_ok (by assumption) rfl rfl (by simp only [List.length_cons, List.length_nil]; omega), ?_⟩
    | refine need_holds ?_ fun _ => ?_
    | refine all_holds fun y hy => ?_
    | refine ret_eq ?_
  · have hj : j < (rd p.mems k).n := by assumption
    refine ih _ _ _ _ (l ++ [⟨false, at_, (rd p.mems k).secret⟩]) ⟨OnL.snoc h1 (⟨false, at_, (rd p.mems k).secret⟩ : Place), ?_, by omega, by omega, by omega, by omega, ?_⟩ (by omega)
    · rw [memPlace_succ (rd p.mems k).secret (by omega)] at h2
      rw [List.append_assoc, show (rd p.mems k).n - (j + 1) = (rd p.mems k).n - j - 1 by omega, show at_ + 1 + ((rd p.mems k).n - j - 1) = at_ + ((rd p.mems k).n - j) by omega]
      simpa using h2
    · simp; omega
  · have hj : j = (rd p.mems k).n := by omega
    subst hj
    rw [memPlace_zero (rd p.mems k).secret (by omega), List.nil_append, Int.sub_self, Int.add_zero] at h2
    exact hnext _ _ _ l h1 h2 (by omega) (by omega) (by omega)
theorem l_rPl1 (p : Prg) (hm : Mems p.mems) (tot : List Place) : ∀ i_ : Int × Int × List (List D) × Nat × List Place, (fun (i : Int × Int × List (List D) × Nat × List Place) => OnL i.2.2.1 i.2.2.2.1 i.2.2.2.2 ∧ i.2.2.2.2 ++ memPlaces (p.mems.drop i.2.1.toNat) i.1 = tot ∧ 0 ≤ i.2.1 ∧ i.2.1 ≤ p.mems.length ∧ 0 ≤ i.1 ∧ i.1 ≤ 16 * i.2.1 ∧ i.2.2.2.2.length ≤ 16 * (i.2.1 + 1)) i_ → (a_rPlaces.at_ 1 ((fun (i : Int × Int × List (List D) × Nat × List Place) => F_rPl1 p i.1 i.2.1 i.2.2.1 i.2.2.2.1) i_)).holds s_rPlaces.cx a_rPlaces.rs (fun r => r.le (rplaces tot)) := by
  refine loop_rule (a := a_rPlaces) (j := 1) (m := 400) s_rPlaces_sound (fun (i : Int × Int × List (List D) × Nat × List Place) => F_rPl1 p i.1 i.2.1 i.2.2.1 i.2.2.2.1) (fun (i : Int × Int × List (List D) × Nat × List Place) => OnL i.2.2.1 i.2.2.2.1 i.2.2.2.2 ∧ i.2.2.2.2 ++ memPlaces (p.mems.drop i.2.1.toNat) i.1 = tot ∧ 0 ≤ i.2.1 ∧ i.2.1 ≤ p.mems.length ∧ 0 ≤ i.1 ∧ i.1 ≤ 16 * i.2.1 ∧ i.2.2.2.2.length ≤ 16 * (i.2.1 + 1)) (fun (i : Int × Int × List (List D) × Nat × List Place) => ((p.mems.length : Int) - i.2.1).toNat) ?_
  rintro ⟨at_, k, R, n, l⟩ h_inv ih
  try dsimp only at h_inv
  replace ih := fun (v0 : Int) (v1 : Int) (v2 : List (List D)) (v3 : Nat) (v4 : List Place) => ih (v0, v1, v2, v3, v4)
  try dsimp only at ih
  show VC.holds _ _ _ (a_rPlaces.round s_rPlaces 400 1 (F_rPl1 p at_ k R n))
  rw [t_rPl1]
  try simp only [asRows_sl, asInt_int, asBool_bool, asStr_str, listOf_rowsOn, List.drop_zero, Prg.eta, Sta.eta, rowsOn_length, getD_drop, Nat.reduceAdd, rd_int, rd_PMem_name, rd_PMem_secret, rd_PMem_n, rd_PLabel_name, rd_PLabel_at_, rd_Ins_kind, rd_Ins_op, rd_Ins_d, rd_Ins_aR, rd_Ins_aN, rd_Ins_bR, rd_Ins_bN, rd_Ins_name, rd_Ins_target, rd_Ent_pc, rd_Ent_val, rd_Ent_addr, rd_Ent_fro, rd_Ent_next, rd_Ent_done, rd_Ent_known, rd_Ent_fault, rd_Place_reg, rd_Place_n, rd_Place_secret, rd_Obs_kind, rd_Obs_at_, rd_Dir_kind, rd_Dir_n]
  obtain ⟨h1, h2, h3, h4, h5, h6, h7⟩ := h_inv
  have hlen := hm.len
  repeat' first
    | refine br_not ?_
    | refine br_dec (fun _ => ?_) (fun _ => ?_)
    | refine br_beq (fun _ => ?_) (fun _ => ?_)
    | refine br_bne (fun _ => ?_) (fun _ => ?_)
    | refine br_holds (fun _ => ?_) (fun _ => ?_)
    | refine ⟨PreOk.mk ?_ rfl, ?_⟩
    | refine ⟨idx_ok _ _ _ rfl (by omega) (by omega), ?_⟩
    | refine ⟨okSh_ok _ _ _ (fun _ => rfl) (by omega) (by omega), ?_⟩
    | refine ⟨okSh_okD _ _ _ _ (fun _ => rfl) (by omega) (by omega), ?_⟩
    | refine ⟨aload_ok _ _ rfl (fun _ => rfl) (by omega) (by omega), ?_⟩
    | refine ⟨aload_okD _ _ _ rfl (fun _ => rfl) (by omega) (by omega), ?_⟩
    | refine ⟨astore_ok (by assumption) rfl (by omega) (by omega) (by decide), ?_⟩
    | refine ⟨app_ok (by assumption) rfl rfl (by simp only [List.length_cons, List.length_nil]; omega), ?_⟩
    | refine need_holds ?_ fun _ => ?_
    | refine all_holds fun y hy => ?_
    | refine ret_eq ?_
  · have hk : k < p.mems.length := by assumption
    have h8 := hm.n _ (rd_mem p.mems k h3 hk)
    refine l_rPl2 p hm k _ tot h3 hk (fun at' R' n' l' g1 g2 g3 g4 g5 => ih _ _ _ _ l' ⟨g1, g2, by omega, by omega, g3, g4, by omega⟩ (by omega)) _ _ _ _ l h1 ?_ (by omega) h8.1 h5 (by omega) (by omega)
    rw [Int.sub_zero, ← memPlaces_drop p.mems k at_ h3 hk]
    exact h2
  · have hk : k.toNat = p.mems.length := by omega
    rw [hk, List.drop_length] at h2
    simp only [memPlaces, List.append_nil] at h2
    subst h2
    exact congrArg _ (congrArg _ h1.1)
theorem l_rPl0 (p : Prg) (hm : Mems p.mems) : ∀ i_ : Int × List (List D) × Nat, (fun (i : Int × List (List D) × Nat) => 0 ≤ i.1 ∧ i.1 ≤ 4 ∧ ∃ l, OnL i.2.1 i.2.2 l ∧ l ++ regFrom p i.1 = regPlaces p ∧ l.length ≤ i.1) i_ → (a_rPlaces.at_ 0 ((fun (i : Int × List (List D) × Nat) => F_rPl0 p i.1 i.2.1 i.2.2) i_)).holds s_rPlaces.cx a_rPlaces.rs (fun r => r.le (rplaces (placesS p))) := by
  refine loop_rule (a := a_rPlaces) (j := 0) (m := 400) s_rPlaces_sound (fun (i : Int × List (List D) × Nat) => F_rPl0 p i.1 i.2.1 i.2.2) (fun (i : Int × List (List D) × Nat) => 0 ≤ i.1 ∧ i.1 ≤ 4 ∧ ∃ l, OnL i.2.1 i.2.2 l ∧ l ++ regFrom p i.1 = regPlaces p ∧ l.length ≤ i.1) (fun (i : Int × List (List D) × Nat) => (4 - i.1).toNat) ?_
  rintro ⟨i, R, n⟩ h_inv ih
  try dsimp only at h_inv
  replace ih := fun (v0 : Int) (v1 : List (List D)) (v2 : Nat) => ih (v0, v1, v2)
  try dsimp only at ih
  show VC.holds _ _ _ (a_rPlaces.round s_rPlaces 400 0 (F_rPl0 p i R n))
  rw [t_rPl0]
  try simp only [asRows_sl, asInt_int, asBool_bool, asStr_str, listOf_rowsOn, List.drop_zero, Prg.eta, Sta.eta, rowsOn_length, getD_drop, Nat.reduceAdd, rd_int, rd_PMem_name, rd_PMem_secret, rd_PMem_n, rd_PLabel_name, rd_PLabel_at_, rd_Ins_kind, rd_Ins_op, rd_Ins_d, rd_Ins_aR, rd_Ins_aN, rd_Ins_bR, rd_Ins_bN, rd_Ins_name, rd_Ins_target, rd_Ent_pc, rd_Ent_val, rd_Ent_addr, rd_Ent_fro, rd_Ent_next, rd_Ent_done, rd_Ent_known, rd_Ent_fault, rd_Place_reg, rd_Place_n, rd_Place_secret, rd_Obs_kind, rd_Obs_at_, rd_Dir_kind, rd_Dir_n]
  obtain ⟨h3, h4, l, h1, h2, h5⟩ := h_inv
  have w1 : IntKind.wrap .i64 (i + 1) = i + 1 := wrap_small _ (by omega) (by omega)
  rw [w1]
  repeat' first
    | refine br_not ?_
    | refine br_dec (fun _ => ?_) (fun _ => ?_)
    | refine br_beq (fun _ => ?_) (fun _ => ?_)
    | refine br_bne (fun _ => ?_) (fun _ => ?_)
    | refine br_holds (fun _ => ?_) (fun _ => ?_)
    | refine ⟨PreOk.mk ?_ rfl, ?_⟩
    | refine ⟨idx_ok _ _ _ rfl (by omega) (by omega), ?_⟩
    | refine ⟨okSh_ok _ _ _ (fun _ => rfl) (by omega) (by omega), ?_⟩
    | refine ⟨okSh_okD _ _ _ _ (fun _ => rfl) (by omega) (by omega), ?_⟩
    | refine ⟨aload_ok _ _ rfl (fun _ => rfl) (by omega) (by omega), ?_⟩
    | refine ⟨aload_okD _ _ _ rfl (fun _ => rfl) (by omega) (by omega), ?_⟩
    | refine ⟨astore_ok (by assumption) rfl (by omega) (by omega) (by decide), ?_⟩
    | refine ⟨app_ok (by assumption) rfl rfl (by simp only [List.length_cons, List.length_nil]; omega), ?_⟩
    | refine need_holds ?_ fun _ => ?_
    | refine all_holds fun y hy => ?_
    | refine ret_eq ?_
    | refine ih _ _ _ ?_ ?_
  all_goals try omega
  all_goals try subst i
  all_goals first
    | rw [regFrom0] at h2
    | rw [regFrom1] at h2
    | rw [regFrom2] at h2
    | rw [regFrom3] at h2
    | skip
  all_goals first
    | rw [regPlace_ne ‹¬ _ = (0 : Int)›] at h2
    | rw [regPlace_eq ‹_›, List.nil_append] at h2
    | skip
  all_goals try exact ⟨by omega, by omega, l ++ [_], OnL.snoc h1 (⟨true, _, _⟩ : Place), by rw [List.append_assoc]; exact h2, by simp; omega⟩
  all_goals try exact ⟨by omega, by omega, l, h1, h2, by omega⟩
  · have hi : i = 4 := by omega
    subst hi
    rw [regFrom4, List.append_nil] at h2
    subst h2
    refine l_rPl1 p hm (placesS p) (0, 0, R, n, regPlaces p) ⟨h1, rfl, by simp, by simp, by simp, by simp, by simp; omega⟩
theorem c_rPlaces_good : c_rPlaces.fe.Good Tryd.prog := by
  refine FT.good c_rPlaces ⟨Tryd.f18, by kernel_rfl, by decide +kernel, by kernel_rfl⟩ (fun p => by first | rfl | simp [c_rPlaces, rrRef, ri, rb, rib, rplaces, Sta.fresh]) fun p hp => ?_
  refine acalls_le s_rPlaces_sound (fn := Tryd.f18) (a := a_rPlaces) (nargs := 1) (tbl := [(3, [1, 3, 4, 1000003000000900001003]), (9, [1, 3, 5, 6, 1000003000000900001003]), (12, [1, 3, 5, 6, 7, 1000003000000900001003])]) (by kernel_rfl) (by kernel_rfl) rfl (m := 400) ?_
  show VC.holds _ _ _ (a_rPlaces.start s_rPlaces 400 [ap p])
  rw [t_rPlaces]
  try simp only [asRows_sl, asInt_int, asBool_bool, asStr_str, listOf_rowsOn, List.drop_zero, Prg.eta, Sta.eta, rowsOn_length, getD_drop, Nat.reduceAdd, rd_int, rd_PMem_name, rd_PMem_secret, rd_PMem_n, rd_PLabel_name, rd_PLabel_at_, rd_Ins_kind, rd_Ins_op, rd_Ins_d, rd_Ins_aR, rd_Ins_aN, rd_Ins_bR, rd_Ins_bN, rd_Ins_name, rd_Ins_target, rd_Ent_pc, rd_Ent_val, rd_Ent_addr, rd_Ent_fro, rd_Ent_next, rd_Ent_done, rd_Ent_known, rd_Ent_fault, rd_Place_reg, rd_Place_n, rd_Place_secret, rd_Obs_kind, rd_Obs_at_, rd_Dir_kind, rd_Dir_n]
  try simp only [c_rPlaces] at hp
  exact l_rPl0 p hp (0, [], 0) ⟨by simp, by simp, [], OnL.nil, rfl, by simp⟩
end Go.Proofs.YtmmlolampgnamaaDoor.Ax
end

section
/- States that are begun: what arch's and the reference's Start come to. -/
namespace Go.Proofs.YtmmlolampgnamaaDoor.Ax
open Go.RowKit
set_option linter.unusedVariables false
set_option linter.unusedSimpArgs false
def al (l : List Int) : A := .c (.sl (rowsOn l))
def rdPL : List A → Prg × List Int
  | [.agg l, .c (.sl m)] => (Prg.of l, listOf Int m)
  | _ => (default, [])
def rstab (x : Sta × Bool) : RR := .tup [.inr x.1.fresh, .inl (.d (.bool x.2))]
theorem fill_step (w : Int) (q : List Place) (l : List Int) (k : Int) (s : Sta) (h0 : 0 ≤ k) (h1 : k < q.length) (h2 : k < l.length) : fillS w (q.drop k.toNat) (l.drop k.toNat) s = fillS w (q.drop (k + 1).toNat) (l.drop (k + 1).toNat) (putPlace s (rd q k) (maskS w (rd l k))) := by
  rw [drop_rd q k h0 h1, drop_rd l k h0 h2]; rfl
/-- Places that there are. -/
def PlacesOk (q : List Place) (c : Int) : Prop := ∀ x ∈ q, (x.reg = true → 0 ≤ x.n ∧ x.n < 4) ∧ (x.reg = false → 0 ≤ x.n ∧ x.n < c)
theorem memPlaces_ok : ∀ (ms : List PMem) (at_ : Int), 0 ≤ at_ → (∀ m ∈ ms, 0 ≤ m.n ∧ m.n ≤ 16) → ∀ x ∈ memPlaces ms at_, x.reg = false ∧ 0 ≤ x.n ∧ x.n < at_ + cellsS ms
  | [], _, _, _, x, hx => by simp [memPlaces] at hx
  | m :: ms, at_, h0, hm, x, hx => by
    have h1 := hm m (by simp)
    have h2 := cellsS_nonneg (ms := ms) fun y hy => hm y (by simp [hy])
    simp only [memPlaces, List.mem_append] at hx
    simp only [cellsS]
    rcases hx with hx | hx
    · unfold memPlace at hx
      obtain ⟨k, hk, rfl⟩ := List.mem_map.1 hx
      have := List.mem_range.1 hk
      refine ⟨rfl, ?_, ?_⟩ <;> simp only <;> omega
    · obtain ⟨g1, g2, g3⟩ := memPlaces_ok ms (at_ + m.n) (by omega) (fun y hy => hm y (by simp [hy])) x hx
      exact ⟨g1, g2, by omega⟩
theorem regPlace_ok {n r : Int} {x : Place} (h : x ∈ regPlace n r) : x.reg = true ∧ x.n = r := by
  unfold regPlace at h
  split at h
  · simp at h
  · simp only [List.mem_singleton] at h; subst h; exact ⟨rfl, rfl⟩
theorem places_ok (p : Prg) (hm : Mems p.mems) : PlacesOk (placesS p) (cellsS p.mems) := by
  intro x hx
  unfold placesS regPlaces at hx
  simp only [List.mem_append] at hx
  rcases hx with (((hx | hx) | hx) | hx) | hx
  · obtain ⟨h1, h2⟩ := regPlace_ok hx; exact ⟨fun _ => by omega, fun h => by rw [h1] at h; cases h⟩
  · obtain ⟨h1, h2⟩ := regPlace_ok hx; exact ⟨fun _ => by omega, fun h => by rw [h1] at h; cases h⟩
  · obtain ⟨h1, h2⟩ := regPlace_ok hx; exact ⟨fun _ => by omega, fun h => by rw [h1] at h; cases h⟩
  · obtain ⟨h1, h2⟩ := regPlace_ok hx; exact ⟨fun _ => by omega, fun h => by rw [h1] at h; cases h⟩
  · obtain ⟨h1, h2, h3⟩ := memPlaces_ok p.mems 0 (Int.le_refl _) hm.n x hx
    exact ⟨fun h => (by rw [h1] at h; cases h), fun _ => by omega⟩
theorem regPlace_len (n r : Int) : (regPlace n r).length ≤ 1 := by unfold regPlace; split <;> simp
theorem memPlaces_len : ∀ (ms : List PMem) (at_ : Int), (∀ m ∈ ms, 0 ≤ m.n ∧ m.n ≤ 16) → (memPlaces ms at_).length = cellsS ms
  | [], _, _ => rfl
  | m :: ms, at_, h => by
    have h1 := h m (by simp)
    simp only [memPlaces, memPlace, cellsS, List.length_append, List.length_map, List.length_range]
    have := memPlaces_len ms (at_ + m.n) (fun y hy => h y (by simp [hy]))
    omega
theorem places_len (p : Prg) (hm : Mems p.mems) : (placesS p).length ≤ 4 + cellsS p.mems ∧ cellsS p.mems ≤ 1600 ∧ 0 ≤ cellsS p.mems := by
  have h1 := cellsS_nonneg hm.n
  have h2 := hm.len
  have h3 := memPlaces_len p.mems 0 hm.n
  have g0 := regPlace_len p.r0 0
  have g1 := regPlace_len p.r1 1
  have g2 := regPlace_len p.r2 2
  have g3 := regPlace_len p.r3 3
  unfold placesS regPlaces
  simp only [List.length_append]
  omega
theorem zero_le (b : Bool) : (RR.tup [.inr [.d (.int .i64 0), .d (.int .i64 0), .d (.int .i64 0), .d (.int .i64 0), .nil, .nil, .d (.int .i64 0)], .inl (.d (.bool b))]).le (rstab (zeroSta 0, b)) := ⟨⟨rfl, rfl, rfl, rfl, rfl, rfl, rfl, trivial⟩, rfl, trivial⟩
def c_aStart : FT (Prg × List Int) := ⟨29, fun x => [ap x.1, al x.2], rdPL, fun x => Mems x.1.mems, fun x => rstab (startS x.1 x.2), false, fun x => by simp [ap, al, rdPL]⟩
noncomputable def a_aStart : FnA := (fnA Tryd.prog Tryd.f29 2 [(6, [1, 2, 4, 7, 23, 24, 25])]).getD ⟨0, .skip, [], []⟩
def s_aStart : Sp := spT [c_aPlaces.fe, c_aCells.fe, c_wMask.fe]
theorem s_aStart_sound : s_aStart.sound Tryd.prog := spT_sound fun e he => by
  simp only [List.mem_cons, List.not_mem_nil, or_false] at he
  rcases he with rfl | rfl | rfl
  · exact c_aPlaces_good
  · exact c_aCells_good
  · exact c_wMask_good
def F_aStart (p : Prg) (l : List Int) (q : List Place) (k r0 r1 r2 r3 : Int) (R : List (List D)) (n : Nat) : St := ⟨mkS 52 [(1, vr (rowsOn l)), (2, vp 128), (4, vp 256), (7, vp 448), (23, vo 768 (rowsOn q).length), (24, vi (rowsOn q).length), (25, vi k)],
  [(128, bx p.cells), (256, bc [.d (.int .i64 0), .d (.int .i64 0), .d (.int .i64 0), .d (.int .i64 0), .nil, .nil, .d (.int .i64 0)]), (448, bc [.d (.int .i64 r0), .d (.int .i64 r1), .d (.int .i64 r2), .d (.int .i64 r3), .own 1344 1 n, .nil, .d (.int .i64 0)]), (768, ba 3 (rowsOn q)), (1344, ba 1 R)]⟩
set_option maxRecDepth 100000 in
theorem t_aStart (p : Prg) (l : List Int) : a_aStart.start s_aStart 400 [ap p, al l] =
(VC.need (PreOk c_aPlaces p [A.agg (Prg.cells p)])
(VC.br ((↑(List.length (rowsOn l)) : Int) != (↑(List.length (rowsOn (placesS { w := p.w, window := p.window, fuel := p.fuel, r0 := p.r0, r1 := p.r1, r2 := p.r2, r3 := p.r3, mems := listOf PMem (rowsOn p.mems), labels := listOf PLabel (rowsOn p.labels), ins := listOf Ins (rowsOn p.ins) }))) : Int))
 (VC.ret (some (RR.tup [Sum.inr [Rc.d (D.int IntKind.i64 (0 : Int)), Rc.d (D.int IntKind.i64 (0 : Int)), Rc.d (D.int IntKind.i64 (0 : Int)), Rc.d (D.int IntKind.i64 (0 : Int)), Rc.nil, Rc.nil, Rc.d (D.int IntKind.i64 (0 : Int))], Sum.inl (Rc.d (D.bool false))])))
 (VC.need (PreOk c_aCells p [A.agg (Prg.cells p)])
 (VC.need (cellsS (listOf PMem (rowsOn p.mems)) = cellsS (listOf PMem (rowsOn p.mems)) ∧ (0 : Int) ≤ cellsS (listOf PMem (rowsOn p.mems)) ∧ (9 : Int) * cellsS (listOf PMem (rowsOn p.mems)) ≤ (140737488355328 : Int))
 (FnA.at_ a_aStart 0 (F_aStart p l (placesS { w := p.w, window := p.window, fuel := p.fuel, r0 := p.r0, r1 := p.r1, r2 := p.r2, r3 := p.r3, mems := listOf PMem (rowsOn p.mems), labels := listOf PLabel (rowsOn p.labels), ins := listOf Ins (rowsOn p.ins) }) (0 : Int) (0 : Int) (0 : Int) (0 : Int) (0 : Int) (List.replicate (Int.toNat (cellsS (listOf PMem (rowsOn p.mems)))) [D.int IntKind.i64 (0 : Int)]) (Int.toNat (cellsS (listOf PMem (rowsOn p.mems)))))))))) := by kernel_rfl
set_option maxRecDepth 100000 in
theorem t_aStart0 (p : Prg) (l : List Int) (q : List Place) (k r0 r1 r2 r3 : Int) (R : List (List D)) (n : Nat) : a_aStart.round s_aStart 400 0 (F_aStart p l q k r0 r1 r2 r3 R n) =
(VC.br (decide (k < (↑(List.length (rowsOn q)) : Int)))
 (VC.need ((0 : Int) ≤ k ∧ k < (↑(List.length (rowsOn q)) : Int))
 (VC.need (Int.toNat k < List.length (rowsOn q) ∧ List.length (rowAt (rowsOn q) (Int.toNat k)) = (3 : Nat) ∧ okSh [Kd.bool, Kd.int IntKind.i64, Kd.bool] (List.drop (0 : Nat) (rowAt (rowsOn q) (Int.toNat k))))
 (VC.need ((0 : Int) ≤ k ∧ k < (↑(List.length (rowsOn l)) : Int) ∧ List.length (rowAt (rowsOn l) (Int.toNat k)) = (1 : Nat))
 (VC.need (okSh [Kd.int IntKind.i64] (rowAt (rowsOn l) (Int.toNat k)))
 (VC.need (PreOk c_wMask (p.w, asInt (List.getD (rowAt (rowsOn l) (Int.toNat k)) (0 : Nat) D.nilp)) [A.c (D.int IntKind.i64 p.w), A.c (D.int IntKind.i64 (asInt (List.getD (rowAt (rowsOn l) (Int.toNat k)) (0 : Nat) D.nilp)))])
 (VC.br (asBool (List.getD (List.drop (0 : Nat) (rowAt (rowsOn q) (Int.toNat k))) (0 : Nat) D.nilp))
  (VC.br (decide (asInt (List.getD (List.drop (0 : Nat) (rowAt (rowsOn q) (Int.toNat k))) (1 : Nat) D.nilp) = (0 : Int)))
   (FnA.at_ a_aStart 0 (F_aStart p l q (IntKind.wrap IntKind.i64 (k + (1 : Int))) (maskS p.w (asInt (List.getD (rowAt (rowsOn l) (Int.toNat k)) (0 : Nat) D.nilp))) r1 r2 r3 R n))
   (VC.br (decide (asInt (List.getD (List.drop (0 : Nat) (rowAt (rowsOn q) (Int.toNat k))) (1 : Nat) D.nilp) = (1 : Int)))
    (FnA.at_ a_aStart 0 (F_aStart p l q (IntKind.wrap IntKind.i64 (k + (1 : Int))) r0 (maskS p.w (asInt (List.getD (rowAt (rowsOn l) (Int.toNat k)) (0 : Nat) D.nilp))) r2 r3 R n))
    (VC.br (decide (asInt (List.getD (List.drop (0 : Nat) (rowAt (rowsOn q) (Int.toNat k))) (1 : Nat) D.nilp) = (2 : Int)))
     (FnA.at_ a_aStart 0 (F_aStart p l q (IntKind.wrap IntKind.i64 (k + (1 : Int))) r0 r1 (maskS p.w (asInt (List.getD (rowAt (rowsOn l) (Int.toNat k)) (0 : Nat) D.nilp))) r3 R n))
     (VC.br (decide (asInt (List.getD (List.drop (0 : Nat) (rowAt (rowsOn q) (Int.toNat k))) (1 : Nat) D.nilp) = (3 : Int)))
      (FnA.at_ a_aStart 0 (F_aStart p l q (IntKind.wrap IntKind.i64 (k + (1 : Int))) r0 r1 r2 (maskS p.w (asInt (List.getD (rowAt (rowsOn l) (Int.toNat k)) (0 : Nat) D.nilp))) R n))
      VC.ff))))
  (VC.need ((0 : Int) ≤ asInt (List.getD (List.drop (0 : Nat) (rowAt (rowsOn q) (Int.toNat k))) (1 : Nat) D.nilp) ∧ asInt (List.getD (List.drop (0 : Nat) (rowAt (rowsOn q) (Int.toNat k))) (1 : Nat) D.nilp) < (↑n : Int))
  (VC.need (Int.toNat (asInt (List.getD (List.drop (0 : Nat) (rowAt (rowsOn q) (Int.toNat k))) (1 : Nat) D.nilp)) < List.length R ∧ List.length (rowAt R (Int.toNat (asInt (List.getD (List.drop (0 : Nat) (rowAt (rowsOn q) (Int.toNat k))) (1 : Nat) D.nilp)))) = (1 : Nat) ∧ (1 : Nat) ≤ (1 : Nat))
  (FnA.at_ a_aStart 0 (F_aStart p l q (IntKind.wrap IntKind.i64 (k + (1 : Int))) r0 r1 r2 r3 (List.set R (Int.toNat (asInt (List.getD (List.drop (0 : Nat) (rowAt (rowsOn q) (Int.toNat k))) (1 : Nat) D.nilp))) (splice (rowAt R (Int.toNat (asInt (List.getD (List.drop (0 : Nat) (rowAt (rowsOn q) (Int.toNat k))) (1 : Nat) D.nilp)))) (0 : Nat) [D.int IntKind.i64 (maskS p.w (asInt (List.getD (rowAt (rowsOn l) (Int.toNat k)) (0 : Nat) D.nilp)))])) n))))))))))
 (VC.ret (some (RR.tup [Sum.inr [Rc.d (D.int IntKind.i64 r0), Rc.d (D.int IntKind.i64 r1), Rc.d (D.int IntKind.i64 r2), Rc.d (D.int IntKind.i64 r3), Rc.new (1 : Nat) R, Rc.nil, Rc.d (D.int IntKind.i64 (0 : Int))], Sum.inl (Rc.d (D.bool true))])))) := by kernel_rfl
theorem l_aStart0 (p : Prg) (l : List Int) (q : List Place) (c : Int) (fin : Sta) (hq : PlacesOk q c) (hlen : l.length = q.length) (hl : q.length ≤ 10000) : ∀ i_ : Int × Int × Int × Int × Int × List (List D) × Nat, (fun (i : Int × Int × Int × Int × Int × List (List D) × Nat) => 0 ≤ i.1 ∧ i.1 ≤ q.length ∧ ∃ mem : List Int, OnL i.2.2.2.2.2.1 i.2.2.2.2.2.2 mem ∧ mem.length = c ∧ fillS p.w (q.drop i.1.toNat) (l.drop i.1.toNat) ⟨i.2.1, i.2.2.1, i.2.2.2.1, i.2.2.2.2.1, mem, [], 0⟩ = fin) i_ → (a_aStart.at_ 0 ((fun (i : Int × Int × Int × Int × Int × List (List D) × Nat) => F_aStart p l q i.1 i.2.1 i.2.2.1 i.2.2.2.1 i.2.2.2.2.1 i.2.2.2.2.2.1 i.2.2.2.2.2.2) i_)).holds s_aStart.cx a_aStart.rs (fun r => r.le (rstab (fin, true))) := by
  refine loop_rule (a := a_aStart) (j := 0) (m := 400) s_aStart_sound (fun (i : Int × Int × Int × Int × Int × List (List D) × Nat) => F_aStart p l q i.1 i.2.1 i.2.2.1 i.2.2.2.1 i.2.2.2.2.1 i.2.2.2.2.2.1 i.2.2.2.2.2.2) (fun (i : Int × Int × Int × Int × Int × List (List D) × Nat) => 0 ≤ i.1 ∧ i.1 ≤ q.length ∧ ∃ mem : List Int, OnL i.2.2.2.2.2.1 i.2.2.2.2.2.2 mem ∧ mem.length = c ∧ fillS p.w (q.drop i.1.toNat) (l.drop i.1.toNat) ⟨i.2.1, i.2.2.1, i.2.2.2.1, i.2.2.2.2.1, mem, [], 0⟩ = fin) (fun (i : Int × Int × Int × Int × Int × List (List D) × Nat) => ((q.length : Int) - i.1).toNat) ?_
  rintro ⟨k, r0, r1, r2, r3, R, n⟩ h_inv ih
  try dsimp only at h_inv
  replace ih := fun (v0 : Int) (v1 : Int) (v2 : Int) (v3 : Int) (v4 : Int) (v5 : List (List D)) (v6 : Nat) => ih (v0, v1, v2, v3, v4, v5, v6)
  try dsimp only at ih
  show VC.holds _ _ _ (a_aStart.round s_aStart 400 0 (F_aStart p l q k r0 r1 r2 r3 R n))
  rw [t_aStart0]
  try simp only [asRows_sl, asInt_int, asBool_bool, asStr_str, listOf_rowsOn, List.drop_zero, Prg.eta, Sta.eta, rowsOn_length, getD_drop, Nat.reduceAdd, rd_int, rd_PMem_name, rd_PMem_secret, rd_PMem_n, rd_PLabel_name, rd_PLabel_at_, rd_Ins_kind, rd_Ins_op, rd_Ins_d, rd_Ins_aR, rd_Ins_aN, rd_Ins_bR, rd_Ins_bN, rd_Ins_name, rd_Ins_target, rd_Ent_pc, rd_Ent_val, rd_Ent_addr, rd_Ent_fro, rd_Ent_next, rd_Ent_done, rd_Ent_known, rd_Ent_fault, rd_Place_reg, rd_Place_n, rd_Place_secret, rd_Obs_kind, rd_Obs_at_, rd_Dir_kind, rd_Dir_n]
  obtain ⟨h0, h1, mem, h2, h3, h4⟩ := h_inv
  have w1 : IntKind.wrap .i64 (k + 1) = k + 1 := wrap_small _ (by omega) (by omega)
  rw [w1]
  repeat' first
    | refine br_not ?_
    | refine br_dec (fun _ => ?_) (fun _ => ?_)
    | refine br_beq (fun _ => ?_) (fun _ => ?_)
    | refine br_bne (fun _ => ?_) (fun _ => ?_)
    | refine br_holds (fun _ => ?_) (fun _ => ?_)
    | refine ⟨PreOk.mk ?_ rfl, ?_⟩
    | refine ⟨idx_ok _ _ _ rfl (by omega) (by omega), ?_⟩
    | refine ⟨okSh_ok _ _ _ (fun _ => rfl) (by omega) (by omega), ?_⟩
    | refine ⟨okSh_okD _ _ _ _ (fun _ => rfl) (by omega) (by omega), ?_⟩
    | refine ⟨aload_ok _ _ rfl (fun _ => rfl) (by omega) (by omega), ?_⟩
    | refine ⟨aload_okD _ _ _ rfl (fun _ => rfl) (by omega) (by omega), ?_⟩
    | refine ⟨astore_ok (by assumption) rfl (by omega) (by omega) (by decide), ?_⟩
    | refine ⟨app_ok (by assumption) rfl rfl (by simp only [List.length_cons, List.length_nil]; omega), ?_⟩
    | refine need_holds ?_ fun _ => ?_
    | refine all_holds fun y hy => ?_
    | refine ret_le ?_
    | refine ih _ _ _ _ _ _ _ ?_ ?_
  all_goals try trivial
  all_goals try have hk : k < q.length := by assumption
  all_goals try have hx := hq _ (rd_mem q k h0 hk)
  all_goals try rw [fill_step p.w q l k _ h0 hk (by omega)] at h4
  · refine ⟨by omega, by omega, mem, h2, h3, ?_⟩
    simpa [putPlace, Sta.setReg, *] using h4
  · omega
  · refine ⟨by omega, by omega, mem, h2, h3, ?_⟩
    simpa [putPlace, Sta.setReg, *] using h4
  · omega
  · refine ⟨by omega, by omega, mem, h2, h3, ?_⟩
    simpa [putPlace, Sta.setReg, *] using h4
  · omega
  · refine ⟨by omega, by omega, mem, h2, h3, ?_⟩
    simpa [putPlace, Sta.setReg, *] using h4
  · omega
  · have := hx.1 ‹_›
    omega
  · have := hx.2 ‹_›
    have := h2.2
    omega
  · have := hx.2 ‹_›
    exact astore_ok h2 rfl (by omega) (by omega) (by decide)
  · have := hx.2 ‹_›
    refine ⟨by omega, by omega, mem.set (rd q k).n.toNat (maskS p.w (rd l k)), h2.set (by omega) (by omega) (maskS p.w (rd l k)), by simpa using h3, ?_⟩
    simpa [putPlace, *] using h4
  · omega
  · have hk : k.toNat = q.length := by omega
    rw [hk, List.drop_length] at h4
    simp only [fillS] at h4
    obtain ⟨rfl, rfl⟩ := h2
    subst h4
    exact ⟨⟨rfl, rfl, rfl, rfl, rfl, rfl, rfl, trivial⟩, rfl, trivial⟩
theorem c_aStart_good : c_aStart.fe.Good Tryd.prog := by
  refine FT.good c_aStart ⟨Tryd.f29, by kernel_rfl, by decide +kernel, by kernel_rfl⟩ (fun ⟨p, l⟩ => by first | rfl | simp [c_aStart, rrRef, rplaces, ri, rb, rib, rstab, Sta.fresh]) fun ⟨p, l⟩ hp => ?_
  refine acalls_le s_aStart_sound (fn := Tryd.f29) (a := a_aStart) (nargs := 2) (tbl := [(6, [1, 2, 4, 7, 23, 24, 25])]) (by kernel_rfl) (by kernel_rfl) rfl (m := 400) ?_
  show VC.holds _ _ _ (a_aStart.start s_aStart 400 [ap p, al l])
  rw [t_aStart]
  try simp only [asRows_sl, asInt_int, asBool_bool, asStr_str, listOf_rowsOn, List.drop_zero, Prg.eta, Sta.eta, rowsOn_length, getD_drop, Nat.reduceAdd, rd_int, rd_PMem_name, rd_PMem_secret, rd_PMem_n, rd_PLabel_name, rd_PLabel_at_, rd_Ins_kind, rd_Ins_op, rd_Ins_d, rd_Ins_aR, rd_Ins_aN, rd_Ins_bR, rd_Ins_bN, rd_Ins_name, rd_Ins_target, rd_Ent_pc, rd_Ent_val, rd_Ent_addr, rd_Ent_fro, rd_Ent_next, rd_Ent_done, rd_Ent_known, rd_Ent_fault, rd_Place_reg, rd_Place_n, rd_Place_secret, rd_Obs_kind, rd_Obs_at_, rd_Dir_kind, rd_Dir_n]
  try simp only [c_aStart] at hp
  have hm : Mems p.mems := hp
  have hpl := places_len p hm
  repeat' first
    | refine br_not ?_
    | refine br_dec (fun _ => ?_) (fun _ => ?_)
    | refine br_beq (fun _ => ?_) (fun _ => ?_)
    | refine br_bne (fun _ => ?_) (fun _ => ?_)
    | refine br_holds (fun _ => ?_) (fun _ => ?_)
    | refine ⟨PreOk.mk ?_ rfl, ?_⟩
    | refine ⟨idx_ok _ _ _ rfl (by omega) (by omega), ?_⟩
    | refine ⟨okSh_ok _ _ _ (fun _ => rfl) (by omega) (by omega), ?_⟩
    | refine ⟨okSh_okD _ _ _ _ (fun _ => rfl) (by omega) (by omega), ?_⟩
    | refine ⟨aload_ok _ _ rfl (fun _ => rfl) (by omega) (by omega), ?_⟩
    | refine ⟨aload_okD _ _ _ rfl (fun _ => rfl) (by omega) (by omega), ?_⟩
    | refine ⟨astore_ok (by assumption) rfl (by omega) (by omega) (by decide), ?_⟩
    | refine ⟨app_ok (by assumption) rfl rfl (by simp only [List.length_cons, List.length_nil]; omega), ?_⟩
    | refine need_holds ?_ fun _ => ?_
    | refine all_holds fun y hy => ?_
    | refine ret_le ?_
  all_goals try exact hm
  · exact ⟨trivial, by omega, by omega⟩
  · have hll : l.length = (placesS p).length := by omega
    have e : c_aStart.ans (p, l) = rstab (fillS p.w (placesS p) l (zeroSta (cellsS p.mems).toNat), true) := by simp only [c_aStart, startS, if_pos hll]
    rw [e]
    exact l_aStart0 p l (placesS p) (cellsS p.mems) _ (places_ok p hm) hll (by omega) (0, 0, 0, 0, 0, _, _) ⟨by simp, by simp, List.replicate (cellsS p.mems).toNat 0, OnL.rep _ (0 : Int), by simp; omega, rfl⟩
  · have : ¬ l.length = (placesS p).length := by omega
    have e : c_aStart.ans (p, l) = rstab (zeroSta 0, false) := by simp only [c_aStart, startS, if_neg this]
    rw [e]
    exact zero_le false
def c_rStart : FT (Prg × List Int) := ⟨19, fun x => [ap x.1, al x.2], rdPL, fun x => Mems x.1.mems, fun x => rstab (startS x.1 x.2), false, fun x => by simp [ap, al, rdPL]⟩
noncomputable def a_rStart : FnA := (fnA Tryd.prog Tryd.f19 2 [(6, [1, 2, 4, 6, 7, 8])]).getD ⟨0, .skip, [], []⟩
def s_rStart : Sp := spT [c_rPlaces.fe, c_rCells.fe, c_rMask.fe]
theorem s_rStart_sound : s_rStart.sound Tryd.prog := spT_sound fun e he => by
  simp only [List.mem_cons, List.not_mem_nil, or_false] at he
  rcases he with rfl | rfl | rfl
  · exact c_rPlaces_good
  · exact c_rCells_good
  · exact c_rMask_good
def F_rStart (p : Prg) (l : List Int) (q : List Place) (k r0 r1 r2 r3 : Int) (R : List (List D)) (n : Nat) : St := ⟨mkS 58 [(1, vr (rowsOn l)), (2, vp 128), (4, vp 256), (6, vo 704 (rowsOn q).length), (7, vp 448), (8, vi k)],
  [(128, bx p.cells), (256, bc [.d (.int .i64 0), .d (.int .i64 0), .d (.int .i64 0), .d (.int .i64 0), .nil, .nil, .d (.int .i64 0)]), (448, bc [.d (.int .i64 r0), .d (.int .i64 r1), .d (.int .i64 r2), .d (.int .i64 r3), .own 1280 1 n, .nil, .d (.int .i64 0)]), (704, ba 3 (rowsOn q)), (1280, ba 1 R)]⟩
set_option maxRecDepth 100000 in
theorem t_rStart (p : Prg) (l : List Int) : a_rStart.start s_rStart 400 [ap p, al l] =
(VC.need (PreOk c_rPlaces p [A.agg (Prg.cells p)])
(VC.br ((↑(List.length (rowsOn l)) : Int) != (↑(List.length (rowsOn (placesS { w := p.w, window := p.window, fuel := p.fuel, r0 := p.r0, r1 := p.r1, r2 := p.r2, r3 := p.r3, mems := listOf PMem (rowsOn p.mems), labels := listOf PLabel (rowsOn p.labels), ins := listOf Ins (rowsOn p.ins) }))) : Int))
 (VC.ret (some (RR.tup [Sum.inr [Rc.d (D.int IntKind.i64 (0 : Int)), Rc.d (D.int IntKind.i64 (0 : Int)), Rc.d (D.int IntKind.i64 (0 : Int)), Rc.d (D.int IntKind.i64 (0 : Int)), Rc.nil, Rc.nil, Rc.d (D.int IntKind.i64 (0 : Int))], Sum.inl (Rc.d (D.bool false))])))
 (VC.need (PreOk c_rCells p [A.agg (Prg.cells p)])
 (VC.need (cellsS (listOf PMem (rowsOn p.mems)) = cellsS (listOf PMem (rowsOn p.mems)) ∧ (0 : Int) ≤ cellsS (listOf PMem (rowsOn p.mems)) ∧ (9 : Int) * cellsS (listOf PMem (rowsOn p.mems)) ≤ (140737488355328 : Int))
 (FnA.at_ a_rStart 0 (F_rStart p l (placesS { w := p.w, window := p.window, fuel := p.fuel, r0 := p.r0, r1 := p.r1, r2 := p.r2, r3 := p.r3, mems := listOf PMem (rowsOn p.mems), labels := listOf PLabel (rowsOn p.labels), ins := listOf Ins (rowsOn p.ins) }) (0 : Int) (0 : Int) (0 : Int) (0 : Int) (0 : Int) (List.replicate (Int.toNat (cellsS (listOf PMem (rowsOn p.mems)))) [D.int IntKind.i64 (0 : Int)]) (Int.toNat (cellsS (listOf PMem (rowsOn p.mems)))))))))) := by kernel_rfl
set_option maxRecDepth 100000 in
theorem t_rStart0 (p : Prg) (l : List Int) (q : List Place) (k r0 r1 r2 r3 : Int) (R : List (List D)) (n : Nat) : a_rStart.round s_rStart 400 0 (F_rStart p l q k r0 r1 r2 r3 R n) =
(VC.br (decide (k < (↑(List.length (rowsOn q)) : Int)))
 (VC.need ((0 : Int) ≤ k ∧ k < (↑(List.length (rowsOn l)) : Int) ∧ List.length (rowAt (rowsOn l) (Int.toNat k)) = (1 : Nat))
 (VC.need (okSh [Kd.int IntKind.i64] (rowAt (rowsOn l) (Int.toNat k)))
 (VC.need (PreOk c_rMask (p.w, asInt (List.getD (rowAt (rowsOn l) (Int.toNat k)) (0 : Nat) D.nilp)) [A.c (D.int IntKind.i64 p.w), A.c (D.int IntKind.i64 (asInt (List.getD (rowAt (rowsOn l) (Int.toNat k)) (0 : Nat) D.nilp)))])
 (VC.need ((0 : Int) ≤ k ∧ k < (↑(List.length (rowsOn q)) : Int))
 (VC.need (Int.toNat k < List.length (rowsOn q) ∧ List.length (rowAt (rowsOn q) (Int.toNat k)) = (3 : Nat) ∧ okSh [Kd.bool] (List.drop (0 : Nat) (rowAt (rowsOn q) (Int.toNat k))))
 (VC.br (asBool (List.getD (List.drop (0 : Nat) (rowAt (rowsOn q) (Int.toNat k))) (0 : Nat) D.nilp))
  (VC.need ((0 : Int) ≤ k ∧ k < (↑(List.length (rowsOn q)) : Int))
  (VC.need (Int.toNat k < List.length (rowsOn q) ∧ List.length (rowAt (rowsOn q) (Int.toNat k)) = (3 : Nat) ∧ okSh [Kd.int IntKind.i64] (List.drop (1 : Nat) (rowAt (rowsOn q) (Int.toNat k))))
  (VC.br (decide (asInt (List.getD (List.drop (1 : Nat) (rowAt (rowsOn q) (Int.toNat k))) (0 : Nat) D.nilp) = (0 : Int)))
   (FnA.at_ a_rStart 0 (F_rStart p l q (IntKind.wrap IntKind.i64 (k + (1 : Int))) (maskS p.w (asInt (List.getD (rowAt (rowsOn l) (Int.toNat k)) (0 : Nat) D.nilp))) r1 r2 r3 R n))
   (VC.br (decide (asInt (List.getD (List.drop (1 : Nat) (rowAt (rowsOn q) (Int.toNat k))) (0 : Nat) D.nilp) = (1 : Int)))
    (FnA.at_ a_rStart 0 (F_rStart p l q (IntKind.wrap IntKind.i64 (k + (1 : Int))) r0 (maskS p.w (asInt (List.getD (rowAt (rowsOn l) (Int.toNat k)) (0 : Nat) D.nilp))) r2 r3 R n))
    (VC.br (decide (asInt (List.getD (List.drop (1 : Nat) (rowAt (rowsOn q) (Int.toNat k))) (0 : Nat) D.nilp) = (2 : Int)))
     (FnA.at_ a_rStart 0 (F_rStart p l q (IntKind.wrap IntKind.i64 (k + (1 : Int))) r0 r1 (maskS p.w (asInt (List.getD (rowAt (rowsOn l) (Int.toNat k)) (0 : Nat) D.nilp))) r3 R n))
     (VC.br (decide (asInt (List.getD (List.drop (1 : Nat) (rowAt (rowsOn q) (Int.toNat k))) (0 : Nat) D.nilp) = (3 : Int)))
      (FnA.at_ a_rStart 0 (F_rStart p l q (IntKind.wrap IntKind.i64 (k + (1 : Int))) r0 r1 r2 (maskS p.w (asInt (List.getD (rowAt (rowsOn l) (Int.toNat k)) (0 : Nat) D.nilp))) R n))
      VC.ff))))))
  (VC.need ((0 : Int) ≤ k ∧ k < (↑(List.length (rowsOn q)) : Int))
  (VC.need (Int.toNat k < List.length (rowsOn q) ∧ List.length (rowAt (rowsOn q) (Int.toNat k)) = (3 : Nat) ∧ okSh [Kd.int IntKind.i64] (List.drop (1 : Nat) (rowAt (rowsOn q) (Int.toNat k))))
  (VC.need ((0 : Int) ≤ asInt (List.getD (List.drop (1 : Nat) (rowAt (rowsOn q) (Int.toNat k))) (0 : Nat) D.nilp) ∧ asInt (List.getD (List.drop (1 : Nat) (rowAt (rowsOn q) (Int.toNat k))) (0 : Nat) D.nilp) < (↑n : Int))
  (VC.need (Int.toNat (asInt (List.getD (List.drop (1 : Nat) (rowAt (rowsOn q) (Int.toNat k))) (0 : Nat) D.nilp)) < List.length R ∧ List.length (rowAt R (Int.toNat (asInt (List.getD (List.drop (1 : Nat) (rowAt (rowsOn q) (Int.toNat k))) (0 : Nat) D.nilp)))) = (1 : Nat) ∧ (1 : Nat) ≤ (1 : Nat))
  (FnA.at_ a_rStart 0 (F_rStart p l q (IntKind.wrap IntKind.i64 (k + (1 : Int))) r0 r1 r2 r3 (List.set R (Int.toNat (asInt (List.getD (List.drop (1 : Nat) (rowAt (rowsOn q) (Int.toNat k))) (0 : Nat) D.nilp))) (splice (rowAt R (Int.toNat (asInt (List.getD (List.drop (1 : Nat) (rowAt (rowsOn q) (Int.toNat k))) (0 : Nat) D.nilp)))) (0 : Nat) [D.int IntKind.i64 (maskS p.w (asInt (List.getD (rowAt (rowsOn l) (Int.toNat k)) (0 : Nat) D.nilp)))])) n))))))))))))
 (VC.ret (some (RR.tup [Sum.inr [Rc.d (D.int IntKind.i64 r0), Rc.d (D.int IntKind.i64 r1), Rc.d (D.int IntKind.i64 r2), Rc.d (D.int IntKind.i64 r3), Rc.new (1 : Nat) R, Rc.nil, Rc.d (D.int IntKind.i64 (0 : Int))], Sum.inl (Rc.d (D.bool true))])))) := by kernel_rfl
theorem l_rStart0 (p : Prg) (l : List Int) (q : List Place) (c : Int) (fin : Sta) (hq : PlacesOk q c) (hlen : l.length = q.length) (hl : q.length ≤ 10000) : ∀ i_ : Int × Int × Int × Int × Int × List (List D) × Nat, (fun (i : Int × Int × Int × Int × Int × List (List D) × Nat) => 0 ≤ i.1 ∧ i.1 ≤ q.length ∧ ∃ mem : List Int, OnL i.2.2.2.2.2.1 i.2.2.2.2.2.2 mem ∧ mem.length = c ∧ fillS p.w (q.drop i.1.toNat) (l.drop i.1.toNat) ⟨i.2.1, i.2.2.1, i.2.2.2.1, i.2.2.2.2.1, mem, [], 0⟩ = fin) i_ → (a_rStart.at_ 0 ((fun (i : Int × Int × Int × Int × Int × List (List D) × Nat) => F_rStart p l q i.1 i.2.1 i.2.2.1 i.2.2.2.1 i.2.2.2.2.1 i.2.2.2.2.2.1 i.2.2.2.2.2.2) i_)).holds s_rStart.cx a_rStart.rs (fun r => r.le (rstab (fin, true))) := by
  refine loop_rule (a := a_rStart) (j := 0) (m := 400) s_rStart_sound (fun (i : Int × Int × Int × Int × Int × List (List D) × Nat) => F_rStart p l q i.1 i.2.1 i.2.2.1 i.2.2.2.1 i.2.2.2.2.1 i.2.2.2.2.2.1 i.2.2.2.2.2.2) (fun (i : Int × Int × Int × Int × Int × List (List D) × Nat) => 0 ≤ i.1 ∧ i.1 ≤ q.length ∧ ∃ mem : List Int, OnL i.2.2.2.2.2.1 i.2.2.2.2.2.2 mem ∧ mem.length = c ∧ fillS p.w (q.drop i.1.toNat) (l.drop i.1.toNat) ⟨i.2.1, i.2.2.1, i.2.2.2.1, i.2.2.2.2.1, mem, [], 0⟩ = fin) (fun (i : Int × Int × Int × Int × Int × List (List D) × Nat) => ((q.length : Int) - i.1).toNat) ?_
  rintro ⟨k, r0, r1, r2, r3, R, n⟩ h_inv ih
  try dsimp only at h_inv
  replace ih := fun (v0 : Int) (v1 : Int) (v2 : Int) (v3 : Int) (v4 : Int) (v5 : List (List D)) (v6 : Nat) => ih (v0, v1, v2, v3, v4, v5, v6)
  try dsimp only at ih
  show VC.holds _ _ _ (a_rStart.round s_rStart 400 0 (F_rStart p l q k r0 r1 r2 r3 R n))
  rw [t_rStart0]
  try simp only [asRows_sl, asInt_int, asBool_bool, asStr_str, listOf_rowsOn, List.drop_zero, Prg.eta, Sta.eta, rowsOn_length, getD_drop, Nat.reduceAdd, rd_int, rd_PMem_name, rd_PMem_secret, rd_PMem_n, rd_PLabel_name, rd_PLabel_at_, rd_Ins_kind, rd_Ins_op, rd_Ins_d, rd_Ins_aR, rd_Ins_aN, rd_Ins_bR, rd_Ins_bN, rd_Ins_name, rd_Ins_target, rd_Ent_pc, rd_Ent_val, rd_Ent_addr, rd_Ent_fro, rd_Ent_next, rd_Ent_done, rd_Ent_known, rd_Ent_fault, rd_Place_reg, rd_Place_n, rd_Place_secret, rd_Obs_kind, rd_Obs_at_, rd_Dir_kind, rd_Dir_n]
  obtain ⟨h0, h1, mem, h2, h3, h4⟩ := h_inv
  have w1 : IntKind.wrap .i64 (k + 1) = k + 1 := wrap_small _ (by omega) (by omega)
  rw [w1]
  repeat' first
    | refine br_not ?_
    | refine br_dec (fun _ => ?_) (fun _ => ?_)
    | refine br_beq (fun _ => ?_) (fun _ => ?_)
    | refine br_bne (fun _ => ?_) (fun _ => ?_)
    | refine br_holds (fun _ => ?_) (fun _ => ?_)
    | refine ⟨PreOk.mk ?_ rfl, ?_⟩
    | refine ⟨idx_ok _ _ _ rfl (by omega) (by omega), ?_⟩
    | refine ⟨okSh_ok _ _ _ (fun _ => rfl) (by omega) (by omega), ?_⟩
    | refine ⟨okSh_okD _ _ _ _ (fun _ => rfl) (by omega) (by omega), ?_⟩
    | refine ⟨aload_ok _ _ rfl (fun _ => rfl) (by omega) (by omega), ?_⟩
    | refine ⟨aload_okD _ _ _ rfl (fun _ => rfl) (by omega) (by omega), ?_⟩
    | refine ⟨astore_ok (by assumption) rfl (by omega) (by omega) (by decide), ?_⟩
    | refine ⟨app_ok (by assumption) rfl rfl (by simp only [List.length_cons, List.length_nil]; omega), ?_⟩
    | refine need_holds ?_ fun _ => ?_
    | refine all_holds fun y hy => ?_
    | refine ret_le ?_
    | refine ih _ _ _ _ _ _ _ ?_ ?_
  all_goals try trivial
  all_goals try have hk : k < q.length := by assumption
  all_goals try have hx := hq _ (rd_mem q k h0 hk)
  all_goals try rw [fill_step p.w q l k _ h0 hk (by omega)] at h4
  · refine ⟨by omega, by omega, mem, h2, h3, ?_⟩
    simpa [putPlace, Sta.setReg, *] using h4
  · omega
  · refine ⟨by omega, by omega, mem, h2, h3, ?_⟩
    simpa [putPlace, Sta.setReg, *] using h4
  · omega
  · refine ⟨by omega, by omega, mem, h2, h3, ?_⟩
    simpa [putPlace, Sta.setReg, *] using h4
  · omega
  · refine ⟨by omega, by omega, mem, h2, h3, ?_⟩
    simpa [putPlace, Sta.setReg, *] using h4
  · omega
  · have := hx.1 ‹_›
    omega
  · have := hx.2 ‹_›
    have := h2.2
    omega
  · have := hx.2 ‹_›
    exact astore_ok h2 rfl (by omega) (by omega) (by decide)
  · have := hx.2 ‹_›
    refine ⟨by omega, by omega, mem.set (rd q k).n.toNat (maskS p.w (rd l k)), h2.set (by omega) (by omega) (maskS p.w (rd l k)), by simpa using h3, ?_⟩
    simpa [putPlace, *] using h4
  · omega
  · have hk : k.toNat = q.length := by omega
    rw [hk, List.drop_length] at h4
    simp only [fillS] at h4
    obtain ⟨rfl, rfl⟩ := h2
    subst h4
    exact ⟨⟨rfl, rfl, rfl, rfl, rfl, rfl, rfl, trivial⟩, rfl, trivial⟩
theorem c_rStart_good : c_rStart.fe.Good Tryd.prog := by
  refine FT.good c_rStart ⟨Tryd.f19, by kernel_rfl, by decide +kernel, by kernel_rfl⟩ (fun ⟨p, l⟩ => by first | rfl | simp [c_rStart, rrRef, rplaces, ri, rb, rib, rstab, Sta.fresh]) fun ⟨p, l⟩ hp => ?_
  refine acalls_le s_rStart_sound (fn := Tryd.f19) (a := a_rStart) (nargs := 2) (tbl := [(6, [1, 2, 4, 6, 7, 8])]) (by kernel_rfl) (by kernel_rfl) rfl (m := 400) ?_
  show VC.holds _ _ _ (a_rStart.start s_rStart 400 [ap p, al l])
  rw [t_rStart]
  try simp only [asRows_sl, asInt_int, asBool_bool, asStr_str, listOf_rowsOn, List.drop_zero, Prg.eta, Sta.eta, rowsOn_length, getD_drop, Nat.reduceAdd, rd_int, rd_PMem_name, rd_PMem_secret, rd_PMem_n, rd_PLabel_name, rd_PLabel_at_, rd_Ins_kind, rd_Ins_op, rd_Ins_d, rd_Ins_aR, rd_Ins_aN, rd_Ins_bR, rd_Ins_bN, rd_Ins_name, rd_Ins_target, rd_Ent_pc, rd_Ent_val, rd_Ent_addr, rd_Ent_fro, rd_Ent_next, rd_Ent_done, rd_Ent_known, rd_Ent_fault, rd_Place_reg, rd_Place_n, rd_Place_secret, rd_Obs_kind, rd_Obs_at_, rd_Dir_kind, rd_Dir_n]
  try simp only [c_rStart] at hp
  have hm : Mems p.mems := hp
  have hpl := places_len p hm
  repeat' first
    | refine br_not ?_
    | refine br_dec (fun _ => ?_) (fun _ => ?_)
    | refine br_beq (fun _ => ?_) (fun _ => ?_)
    | refine br_bne (fun _ => ?_) (fun _ => ?_)
    | refine br_holds (fun _ => ?_) (fun _ => ?_)
    | refine ⟨PreOk.mk ?_ rfl, ?_⟩
    | refine ⟨idx_ok _ _ _ rfl (by omega) (by omega), ?_⟩
    | refine ⟨okSh_ok _ _ _ (fun _ => rfl) (by omega) (by omega), ?_⟩
    | refine ⟨okSh_okD _ _ _ _ (fun _ => rfl) (by omega) (by omega), ?_⟩
    | refine ⟨aload_ok _ _ rfl (fun _ => rfl) (by omega) (by omega), ?_⟩
    | refine ⟨aload_okD _ _ _ rfl (fun _ => rfl) (by omega) (by omega), ?_⟩
    | refine ⟨astore_ok (by assumption) rfl (by omega) (by omega) (by decide), ?_⟩
    | refine ⟨app_ok (by assumption) rfl rfl (by simp only [List.length_cons, List.length_nil]; omega), ?_⟩
    | refine need_holds ?_ fun _ => ?_
    | refine all_holds fun y hy => ?_
    | refine ret_le ?_
  all_goals try exact hm
  · exact ⟨trivial, by omega, by omega⟩
  · have hll : l.length = (placesS p).length := by omega
    have e : c_rStart.ans (p, l) = rstab (fillS p.w (placesS p) l (zeroSta (cellsS p.mems).toNat), true) := by simp only [c_rStart, startS, if_pos hll]
    rw [e]
    exact l_rStart0 p l (placesS p) (cellsS p.mems) _ (places_ok p hm) hll (by omega) (0, 0, 0, 0, 0, _, _) ⟨by simp, by simp, List.replicate (cellsS p.mems).toNat 0, OnL.rep _ (0 : Int), by simp; omega, rfl⟩
  · have : ¬ l.length = (placesS p).length := by omega
    have e : c_rStart.ans (p, l) = rstab (zeroSta 0, false) := by simp only [c_rStart, startS, if_neg this]
    rw [e]
    exact zero_le false
end Go.Proofs.YtmmlolampgnamaaDoor.Ax
end
