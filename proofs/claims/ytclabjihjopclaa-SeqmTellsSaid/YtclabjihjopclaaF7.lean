/- Programs of numbers: augurylaw6.Make answers one that is well made. -/
import Derived.Test.YtclabjihjopclaaF6
namespace Go.Proofs.Ytclabjihjopclaa.Ax
open Go.RowKit
set_option linter.unusedVariables false
set_option linter.unusedSimpArgs false
structure WFI (n : Int) (i : Ins) : Prop where
  kind : 1 ≤ i.kind ∧ i.kind ≤ 11
  op : 0 ≤ i.op ∧ i.op ≤ 10
  d : 0 ≤ i.d ∧ i.d < 4
  aN : 0 ≤ i.aN ∧ i.aN < 4
  bN : 0 ≤ i.bN ∧ i.bN < 4
  target : 0 ≤ i.target ∧ i.target ≤ n
def rdLI : List A → List Int × Int
  | [.c (.int _ i), .c (.rptr [.sl r])] => (listOf Int r, i)
  | _ => ([], 0)
def kS (l : List Int) (i : Int) : Int := if i < l.length then rd l i else i
def c_mkk : FT (List Int × Int) := ⟨71, fun x => [ai x.2, .c (.rptr [.sl (rowsOn x.1)])], rdLI, fun x => 0 ≤ x.2, fun x => ri (kS x.1 x.2), false, fun x => by simp [ai, rdLI]⟩
noncomputable def a_mkk : FnA := (fnA Try.prog Try.f71 2 []).getD ⟨0, .skip, [], []⟩
def s_mkk : Sp := spT []
theorem s_mkk_sound : s_mkk.sound Try.prog := spT_sound fun e he => by cases he
set_option maxRecDepth 100000 in
theorem t_mkk (l : List Int) (i : Int) : a_mkk.start s_mkk 400 [ai i, .c (.rptr [.sl (rowsOn l)])] =
(VC.need (okSh [Kd.sl] [D.sl (rowsOn l)])
(VC.br (decide (i < (↑(List.length (asRows (D.sl (rowsOn l)))) : Int)))
 (VC.need (okSh [Kd.sl] [D.sl (rowsOn l)])
 (VC.need ((0 : Int) ≤ i ∧ i < (↑(List.length (asRows (D.sl (rowsOn l)))) : Int) ∧ List.length (rowAt (asRows (D.sl (rowsOn l))) (Int.toNat i)) = (1 : Nat))
 (VC.need (okSh [Kd.int IntKind.i64] (rowAt (asRows (D.sl (rowsOn l))) (Int.toNat i)))
 (VC.ret (some (RR.c (Rc.d (D.int IntKind.i64 (asInt (List.getD (rowAt (asRows (D.sl (rowsOn l))) (Int.toNat i)) (0 : Nat) D.nilp))))))))))
 (VC.ret (some (RR.c (Rc.d (D.int IntKind.i64 i))))))) := by kernel_rfl
theorem c_mkk_good : c_mkk.fe.Good Try.prog := by
  refine FT.good c_mkk ⟨Try.f71, by kernel_rfl, by decide +kernel, by kernel_rfl⟩ (fun ⟨l, i⟩ => by first | rfl | simp [c_mkk, rrRef, rplaces, Sta.fresh]) fun ⟨l, i⟩ hp => ?_
  refine acalls_le s_mkk_sound (fn := Try.f71) (a := a_mkk) (nargs := 2) (tbl := []) (by kernel_rfl) (by kernel_rfl) rfl (m := 400) ?_
  show VC.holds _ _ _ (a_mkk.start s_mkk 400 [ai i, .c (.rptr [.sl (rowsOn l)])])
  rw [t_mkk]
  try simp only [asRows_sl, asInt_int, asBool_bool, asStr_str, listOf_rowsOn, List.drop_zero, Prg.eta, Sta.eta, rowsOn_length, getD_drop, Nat.reduceAdd, rd_int, rd_PMem_name, rd_PMem_secret, rd_PMem_n, rd_PLabel_name, rd_PLabel_at_, rd_Ins_kind, rd_Ins_op, rd_Ins_d, rd_Ins_aR, rd_Ins_aN, rd_Ins_bR, rd_Ins_bN, rd_Ins_name, rd_Ins_target, rd_Ent_pc, rd_Ent_val, rd_Ent_addr, rd_Ent_fro, rd_Ent_next, rd_Ent_done, rd_Ent_known, rd_Ent_fault, rd_Place_reg, rd_Place_n, rd_Place_secret, rd_Obs_kind, rd_Obs_at_, rd_Dir_kind, rd_Dir_n]
  try simp only [c_mkk] at hp
  refine ⟨rfl, ?_⟩
  refine br_dec (fun h => ?_) (fun h => ?_)
  · refine ⟨rfl, idx_ok _ _ _ rfl hp h, okSh_ok _ _ _ (fun _ => rfl) hp h, ret_eq ?_⟩
    simp only [c_mkk, kS, if_pos h]
    rfl
  · refine ret_eq ?_
    simp only [c_mkk, kS, if_neg h]
    rfl
def valM (n : Int) : Bool × Int := (!(bits .and .i64 n 4 == 0), bits .and .i64 n 3)
def c_lval : FT Int := ⟨113, fun n => [ai n], rdI1, fun _ => True, fun n => .agg [.d (.bool (valM n).1), .d (.int .i64 (valM n).2)], false, fun _ => rfl⟩
noncomputable def a_lval : FnA := (fnA Try.prog Try.f113 1 []).getD ⟨0, .skip, [], []⟩
def s_lval : Sp := spT []
theorem s_lval_sound : s_lval.sound Try.prog := spT_sound fun e he => by cases he
set_option maxRecDepth 100000 in
theorem t_lval (n : Int) : a_lval.start s_lval 400 [ai n] =
(VC.br (bits BinOp.and IntKind.i64 n (4 : Int) == (0 : Int))
 (VC.ret (some (RR.agg [Rc.d (D.bool false), Rc.d (D.int IntKind.i64 (bits BinOp.and IntKind.i64 n (3 : Int)))])))
 (VC.ret (some (RR.agg [Rc.d (D.bool true), Rc.d (D.int IntKind.i64 (bits BinOp.and IntKind.i64 n (3 : Int)))])))) := by kernel_rfl
theorem c_lval_good : c_lval.fe.Good Try.prog := by
  refine FT.good c_lval ⟨Try.f113, by kernel_rfl, by decide +kernel, by kernel_rfl⟩ (fun n => by first | rfl | simp [c_lval, rrRef, rplaces, Sta.fresh]) fun n hp => ?_
  refine acalls_le s_lval_sound (fn := Try.f113) (a := a_lval) (nargs := 1) (tbl := []) (by kernel_rfl) (by kernel_rfl) rfl (m := 400) ?_
  show VC.holds _ _ _ (a_lval.start s_lval 400 [ai n])
  rw [t_lval]
  try simp only [asRows_sl, asInt_int, asBool_bool, asStr_str, listOf_rowsOn, List.drop_zero, Prg.eta, Sta.eta, rowsOn_length, getD_drop, Nat.reduceAdd, rd_int, rd_PMem_name, rd_PMem_secret, rd_PMem_n, rd_PLabel_name, rd_PLabel_at_, rd_Ins_kind, rd_Ins_op, rd_Ins_d, rd_Ins_aR, rd_Ins_aN, rd_Ins_bR, rd_Ins_bN, rd_Ins_name, rd_Ins_target, rd_Ent_pc, rd_Ent_val, rd_Ent_addr, rd_Ent_fro, rd_Ent_next, rd_Ent_done, rd_Ent_known, rd_Ent_fault, rd_Place_reg, rd_Place_n, rd_Place_secret, rd_Obs_kind, rd_Obs_at_, rd_Dir_kind, rd_Dir_n]
  try simp only [c_lval] at hp
  refine br_holds (fun h => ?_) (fun h => ?_)
  · refine ret_eq ?_
    simp only [c_lval, valM, h]
    rfl
  · refine ret_eq ?_
    simp only [c_lval, valM, h]
    rfl
noncomputable def insM (x n : Int) : Ins := pick fun i => WFI n i ∧ ACalls Try.prog 73 [ai x, ai n] (.agg ((row i).map .d))
noncomputable def c_lins : FT (Int × Int) := ⟨73, fun x => [ai x.1, ai x.2], rdI2, fun x => 1 ≤ x.2 ∧ x.2 ≤ 1000, fun x => .agg ((row (insM x.1 x.2)).map .d), false, fun _ => rfl⟩
theorem tabK : ∀ i : Nat, i < 18 → (1 ≤ asInt (List.getD (rowAt [[D.int IntKind.i64 (1 : Int)], [D.int IntKind.i64 (1 : Int)], [D.int IntKind.i64 (2 : Int)], [D.int IntKind.i64 (2 : Int)], [D.int IntKind.i64 (2 : Int)], [D.int IntKind.i64 (3 : Int)], [D.int IntKind.i64 (3 : Int)], [D.int IntKind.i64 (4 : Int)], [D.int IntKind.i64 (5 : Int)], [D.int IntKind.i64 (5 : Int)], [D.int IntKind.i64 (5 : Int)], [D.int IntKind.i64 (6 : Int)], [D.int IntKind.i64 (7 : Int)], [D.int IntKind.i64 (8 : Int)], [D.int IntKind.i64 (9 : Int)], [D.int IntKind.i64 (10 : Int)], [D.int IntKind.i64 (11 : Int)], [D.int IntKind.i64 (1 : Int)]] i) 0 D.nilp) ∧ asInt (List.getD (rowAt [[D.int IntKind.i64 (1 : Int)], [D.int IntKind.i64 (1 : Int)], [D.int IntKind.i64 (2 : Int)], [D.int IntKind.i64 (2 : Int)], [D.int IntKind.i64 (2 : Int)], [D.int IntKind.i64 (3 : Int)], [D.int IntKind.i64 (3 : Int)], [D.int IntKind.i64 (4 : Int)], [D.int IntKind.i64 (5 : Int)], [D.int IntKind.i64 (5 : Int)], [D.int IntKind.i64 (5 : Int)], [D.int IntKind.i64 (6 : Int)], [D.int IntKind.i64 (7 : Int)], [D.int IntKind.i64 (8 : Int)], [D.int IntKind.i64 (9 : Int)], [D.int IntKind.i64 (10 : Int)], [D.int IntKind.i64 (11 : Int)], [D.int IntKind.i64 (1 : Int)]] i) 0 D.nilp) ≤ 11) ∧ (rowAt [[D.int IntKind.i64 (1 : Int)], [D.int IntKind.i64 (1 : Int)], [D.int IntKind.i64 (2 : Int)], [D.int IntKind.i64 (2 : Int)], [D.int IntKind.i64 (2 : Int)], [D.int IntKind.i64 (3 : Int)], [D.int IntKind.i64 (3 : Int)], [D.int IntKind.i64 (4 : Int)], [D.int IntKind.i64 (5 : Int)], [D.int IntKind.i64 (5 : Int)], [D.int IntKind.i64 (5 : Int)], [D.int IntKind.i64 (6 : Int)], [D.int IntKind.i64 (7 : Int)], [D.int IntKind.i64 (8 : Int)], [D.int IntKind.i64 (9 : Int)], [D.int IntKind.i64 (10 : Int)], [D.int IntKind.i64 (11 : Int)], [D.int IntKind.i64 (1 : Int)]] i).length = 1 ∧ okSh [Kd.int IntKind.i64] (rowAt [[D.int IntKind.i64 (1 : Int)], [D.int IntKind.i64 (1 : Int)], [D.int IntKind.i64 (2 : Int)], [D.int IntKind.i64 (2 : Int)], [D.int IntKind.i64 (2 : Int)], [D.int IntKind.i64 (3 : Int)], [D.int IntKind.i64 (3 : Int)], [D.int IntKind.i64 (4 : Int)], [D.int IntKind.i64 (5 : Int)], [D.int IntKind.i64 (5 : Int)], [D.int IntKind.i64 (5 : Int)], [D.int IntKind.i64 (6 : Int)], [D.int IntKind.i64 (7 : Int)], [D.int IntKind.i64 (8 : Int)], [D.int IntKind.i64 (9 : Int)], [D.int IntKind.i64 (10 : Int)], [D.int IntKind.i64 (11 : Int)], [D.int IntKind.i64 (1 : Int)]] i) := by
  intro i hi
  have : i = 0 ∨ i = 1 ∨ i = 2 ∨ i = 3 ∨ i = 4 ∨ i = 5 ∨ i = 6 ∨ i = 7 ∨ i = 8 ∨ i = 9 ∨ i = 10 ∨ i = 11 ∨ i = 12 ∨ i = 13 ∨ i = 14 ∨ i = 15 ∨ i = 16 ∨ i = 17 := by omega
  rcases this with h | h | h | h | h | h | h | h | h | h | h | h | h | h | h | h | h | h <;> (subst h; exact ⟨by decide, rfl, rfl⟩)
theorem tabO : ∀ i : Nat, i < 4 → (0 ≤ asInt (List.getD (rowAt [[D.int IntKind.i64 (9 : Int)], [D.int IntKind.i64 (10 : Int)], [D.int IntKind.i64 (3 : Int)], [D.int IntKind.i64 (2 : Int)]] i) 0 D.nilp) ∧ asInt (List.getD (rowAt [[D.int IntKind.i64 (9 : Int)], [D.int IntKind.i64 (10 : Int)], [D.int IntKind.i64 (3 : Int)], [D.int IntKind.i64 (2 : Int)]] i) 0 D.nilp) ≤ 10) ∧ (rowAt [[D.int IntKind.i64 (9 : Int)], [D.int IntKind.i64 (10 : Int)], [D.int IntKind.i64 (3 : Int)], [D.int IntKind.i64 (2 : Int)]] i).length = 1 ∧ okSh [Kd.int IntKind.i64] (rowAt [[D.int IntKind.i64 (9 : Int)], [D.int IntKind.i64 (10 : Int)], [D.int IntKind.i64 (3 : Int)], [D.int IntKind.i64 (2 : Int)]] i) := by
  intro i hi
  have : i = 0 ∨ i = 1 ∨ i = 2 ∨ i = 3 := by omega
  rcases this with h | h | h | h <;> (subst h; exact ⟨by decide, rfl, rfl⟩)
theorem tmod255 (y k : Int) : Int.tmod (bits .and .i64 y 255) k = (y % 256) % k := by
  rw [and255, Int.tmod_eq_emod_of_nonneg (by omega)]
noncomputable def a_lins : FnA := (fnA Try.prog Try.f73 2 []).getD ⟨0, .skip, [], []⟩
def s_lins : Sp := spT [c_lval.fe]
theorem s_lins_sound : s_lins.sound Try.prog := spT_sound fun e he => by
  simp only [List.mem_cons, List.not_mem_nil, or_false] at he
  rcases he with rfl
  · exact c_lval_good
set_option maxRecDepth 100000 in
theorem t_lins (x n : Int) : a_lins.start s_lins 400 [ai x, ai n] =
(VC.need ((18 : Int) ≠ (0 : Int))
(VC.need ((0 : Int) ≤ Int.tmod (bits BinOp.and IntKind.i64 x (255 : Int)) (18 : Int) ∧ Int.tmod (bits BinOp.and IntKind.i64 x (255 : Int)) (18 : Int) < (18 : Int))
(VC.need (Int.toNat (Int.tmod (bits BinOp.and IntKind.i64 x (255 : Int)) (18 : Int)) < (18 : Nat) ∧ List.length (rowAt [[D.int IntKind.i64 (1 : Int)], [D.int IntKind.i64 (1 : Int)], [D.int IntKind.i64 (2 : Int)], [D.int IntKind.i64 (2 : Int)], [D.int IntKind.i64 (2 : Int)], [D.int IntKind.i64 (3 : Int)], [D.int IntKind.i64 (3 : Int)], [D.int IntKind.i64 (4 : Int)], [D.int IntKind.i64 (5 : Int)], [D.int IntKind.i64 (5 : Int)], [D.int IntKind.i64 (5 : Int)], [D.int IntKind.i64 (6 : Int)], [D.int IntKind.i64 (7 : Int)], [D.int IntKind.i64 (8 : Int)], [D.int IntKind.i64 (9 : Int)], [D.int IntKind.i64 (10 : Int)], [D.int IntKind.i64 (11 : Int)], [D.int IntKind.i64 (1 : Int)]] (Int.toNat (Int.tmod (bits BinOp.and IntKind.i64 x (255 : Int)) (18 : Int)))) = (1 : Nat) ∧ okSh [Kd.int IntKind.i64] (List.drop (0 : Nat) (rowAt [[D.int IntKind.i64 (1 : Int)], [D.int IntKind.i64 (1 : Int)], [D.int IntKind.i64 (2 : Int)], [D.int IntKind.i64 (2 : Int)], [D.int IntKind.i64 (2 : Int)], [D.int IntKind.i64 (3 : Int)], [D.int IntKind.i64 (3 : Int)], [D.int IntKind.i64 (4 : Int)], [D.int IntKind.i64 (5 : Int)], [D.int IntKind.i64 (5 : Int)], [D.int IntKind.i64 (5 : Int)], [D.int IntKind.i64 (6 : Int)], [D.int IntKind.i64 (7 : Int)], [D.int IntKind.i64 (8 : Int)], [D.int IntKind.i64 (9 : Int)], [D.int IntKind.i64 (10 : Int)], [D.int IntKind.i64 (11 : Int)], [D.int IntKind.i64 (1 : Int)]] (Int.toNat (Int.tmod (bits BinOp.and IntKind.i64 x (255 : Int)) (18 : Int))))))
(VC.need ((0 : Int) ≤ (8 : Int))
(VC.need (PreOk c_lval (Int.fdiv x (256 : Int)) [A.c (D.int IntKind.i64 (Int.fdiv x (256 : Int)))])
(VC.need ((0 : Int) ≤ (11 : Int))
(VC.need (PreOk c_lval (Int.fdiv x (2048 : Int)) [A.c (D.int IntKind.i64 (Int.fdiv x (2048 : Int)))])
(VC.br (asInt (List.getD (List.drop (0 : Nat) (rowAt [[D.int IntKind.i64 (1 : Int)], [D.int IntKind.i64 (1 : Int)], [D.int IntKind.i64 (2 : Int)], [D.int IntKind.i64 (2 : Int)], [D.int IntKind.i64 (2 : Int)], [D.int IntKind.i64 (3 : Int)], [D.int IntKind.i64 (3 : Int)], [D.int IntKind.i64 (4 : Int)], [D.int IntKind.i64 (5 : Int)], [D.int IntKind.i64 (5 : Int)], [D.int IntKind.i64 (5 : Int)], [D.int IntKind.i64 (6 : Int)], [D.int IntKind.i64 (7 : Int)], [D.int IntKind.i64 (8 : Int)], [D.int IntKind.i64 (9 : Int)], [D.int IntKind.i64 (10 : Int)], [D.int IntKind.i64 (11 : Int)], [D.int IntKind.i64 (1 : Int)]] (Int.toNat (Int.tmod (bits BinOp.and IntKind.i64 x (255 : Int)) (18 : Int))))) (0 : Nat) D.nilp) == (1 : Int))
 (VC.need ((0 : Int) ≤ (16 : Int))
 (VC.need ((10 : Int) ≠ (0 : Int))
 (VC.need ((0 : Int) ≤ (14 : Int))
 (VC.ret (some (RR.agg [Rc.d (D.int IntKind.i64 (asInt (List.getD (List.drop (0 : Nat) (rowAt [[D.int IntKind.i64 (1 : Int)], [D.int IntKind.i64 (1 : Int)], [D.int IntKind.i64 (2 : Int)], [D.int IntKind.i64 (2 : Int)], [D.int IntKind.i64 (2 : Int)], [D.int IntKind.i64 (3 : Int)], [D.int IntKind.i64 (3 : Int)], [D.int IntKind.i64 (4 : Int)], [D.int IntKind.i64 (5 : Int)], [D.int IntKind.i64 (5 : Int)], [D.int IntKind.i64 (5 : Int)], [D.int IntKind.i64 (6 : Int)], [D.int IntKind.i64 (7 : Int)], [D.int IntKind.i64 (8 : Int)], [D.int IntKind.i64 (9 : Int)], [D.int IntKind.i64 (10 : Int)], [D.int IntKind.i64 (11 : Int)], [D.int IntKind.i64 (1 : Int)]] (Int.toNat (Int.tmod (bits BinOp.and IntKind.i64 x (255 : Int)) (18 : Int))))) (0 : Nat) D.nilp))), Rc.d (D.int IntKind.i64 (IntKind.wrap IntKind.i64 (Int.tmod (bits BinOp.and IntKind.i64 (Int.fdiv x (65536 : Int)) (255 : Int)) (10 : Int) + (1 : Int)))), Rc.d (D.int IntKind.i64 (bits BinOp.and IntKind.i64 (Int.fdiv x (16384 : Int)) (3 : Int))), Rc.d (D.bool !bits BinOp.and IntKind.i64 (Int.fdiv x (256 : Int)) (4 : Int) == (0 : Int)), Rc.d (D.int IntKind.i64 (bits BinOp.and IntKind.i64 (Int.fdiv x (256 : Int)) (3 : Int))), Rc.d (D.bool !bits BinOp.and IntKind.i64 (Int.fdiv x (2048 : Int)) (4 : Int) == (0 : Int)), Rc.d (D.int IntKind.i64 (bits BinOp.and IntKind.i64 (Int.fdiv x (2048 : Int)) (3 : Int))), Rc.d (D.str { data := #[] }), Rc.d (D.int IntKind.i64 (0 : Int))]))))))
 (VC.br (asInt (List.getD (List.drop (0 : Nat) (rowAt [[D.int IntKind.i64 (1 : Int)], [D.int IntKind.i64 (1 : Int)], [D.int IntKind.i64 (2 : Int)], [D.int IntKind.i64 (2 : Int)], [D.int IntKind.i64 (2 : Int)], [D.int IntKind.i64 (3 : Int)], [D.int IntKind.i64 (3 : Int)], [D.int IntKind.i64 (4 : Int)], [D.int IntKind.i64 (5 : Int)], [D.int IntKind.i64 (5 : Int)], [D.int IntKind.i64 (5 : Int)], [D.int IntKind.i64 (6 : Int)], [D.int IntKind.i64 (7 : Int)], [D.int IntKind.i64 (8 : Int)], [D.int IntKind.i64 (9 : Int)], [D.int IntKind.i64 (10 : Int)], [D.int IntKind.i64 (11 : Int)], [D.int IntKind.i64 (1 : Int)]] (Int.toNat (Int.tmod (bits BinOp.and IntKind.i64 x (255 : Int)) (18 : Int))))) (0 : Nat) D.nilp) == (2 : Int))
  (VC.need ((0 : Int) ≤ (14 : Int))
  (VC.ret (some (RR.agg [Rc.d (D.int IntKind.i64 (asInt (List.getD (List.drop (0 : Nat) (rowAt [[D.int IntKind.i64 (1 : Int)], [D.int IntKind.i64 (1 : Int)], [D.int IntKind.i64 (2 : Int)], [D.int IntKind.i64 (2 : Int)], [D.int IntKind.i64 (2 : Int)], [D.int IntKind.i64 (3 : Int)], [D.int IntKind.i64 (3 : Int)], [D.int IntKind.i64 (4 : Int)], [D.int IntKind.i64 (5 : Int)], [D.int IntKind.i64 (5 : Int)], [D.int IntKind.i64 (5 : Int)], [D.int IntKind.i64 (6 : Int)], [D.int IntKind.i64 (7 : Int)], [D.int IntKind.i64 (8 : Int)], [D.int IntKind.i64 (9 : Int)], [D.int IntKind.i64 (10 : Int)], [D.int IntKind.i64 (11 : Int)], [D.int IntKind.i64 (1 : Int)]] (Int.toNat (Int.tmod (bits BinOp.and IntKind.i64 x (255 : Int)) (18 : Int))))) (0 : Nat) D.nilp))), Rc.d (D.int IntKind.i64 (0 : Int)), Rc.d (D.int IntKind.i64 (bits BinOp.and IntKind.i64 (Int.fdiv x (16384 : Int)) (3 : Int))), Rc.d (D.bool !bits BinOp.and IntKind.i64 (Int.fdiv x (256 : Int)) (4 : Int) == (0 : Int)), Rc.d (D.int IntKind.i64 (bits BinOp.and IntKind.i64 (Int.fdiv x (256 : Int)) (3 : Int))), Rc.d (D.bool !bits BinOp.and IntKind.i64 (Int.fdiv x (2048 : Int)) (4 : Int) == (0 : Int)), Rc.d (D.int IntKind.i64 (bits BinOp.and IntKind.i64 (Int.fdiv x (2048 : Int)) (3 : Int))), Rc.d (D.str { data := #[] }), Rc.d (D.int IntKind.i64 (0 : Int))]))))
  (VC.br (asInt (List.getD (List.drop (0 : Nat) (rowAt [[D.int IntKind.i64 (1 : Int)], [D.int IntKind.i64 (1 : Int)], [D.int IntKind.i64 (2 : Int)], [D.int IntKind.i64 (2 : Int)], [D.int IntKind.i64 (2 : Int)], [D.int IntKind.i64 (3 : Int)], [D.int IntKind.i64 (3 : Int)], [D.int IntKind.i64 (4 : Int)], [D.int IntKind.i64 (5 : Int)], [D.int IntKind.i64 (5 : Int)], [D.int IntKind.i64 (5 : Int)], [D.int IntKind.i64 (6 : Int)], [D.int IntKind.i64 (7 : Int)], [D.int IntKind.i64 (8 : Int)], [D.int IntKind.i64 (9 : Int)], [D.int IntKind.i64 (10 : Int)], [D.int IntKind.i64 (11 : Int)], [D.int IntKind.i64 (1 : Int)]] (Int.toNat (Int.tmod (bits BinOp.and IntKind.i64 x (255 : Int)) (18 : Int))))) (0 : Nat) D.nilp) == (3 : Int))
   (VC.need ((0 : Int) ≤ (14 : Int))
   (VC.ret (some (RR.agg [Rc.d (D.int IntKind.i64 (asInt (List.getD (List.drop (0 : Nat) (rowAt [[D.int IntKind.i64 (1 : Int)], [D.int IntKind.i64 (1 : Int)], [D.int IntKind.i64 (2 : Int)], [D.int IntKind.i64 (2 : Int)], [D.int IntKind.i64 (2 : Int)], [D.int IntKind.i64 (3 : Int)], [D.int IntKind.i64 (3 : Int)], [D.int IntKind.i64 (4 : Int)], [D.int IntKind.i64 (5 : Int)], [D.int IntKind.i64 (5 : Int)], [D.int IntKind.i64 (5 : Int)], [D.int IntKind.i64 (6 : Int)], [D.int IntKind.i64 (7 : Int)], [D.int IntKind.i64 (8 : Int)], [D.int IntKind.i64 (9 : Int)], [D.int IntKind.i64 (10 : Int)], [D.int IntKind.i64 (11 : Int)], [D.int IntKind.i64 (1 : Int)]] (Int.toNat (Int.tmod (bits BinOp.and IntKind.i64 x (255 : Int)) (18 : Int))))) (0 : Nat) D.nilp))), Rc.d (D.int IntKind.i64 (0 : Int)), Rc.d (D.int IntKind.i64 (bits BinOp.and IntKind.i64 (Int.fdiv x (16384 : Int)) (3 : Int))), Rc.d (D.bool !bits BinOp.and IntKind.i64 (Int.fdiv x (256 : Int)) (4 : Int) == (0 : Int)), Rc.d (D.int IntKind.i64 (bits BinOp.and IntKind.i64 (Int.fdiv x (256 : Int)) (3 : Int))), Rc.d (D.bool !bits BinOp.and IntKind.i64 (Int.fdiv x (2048 : Int)) (4 : Int) == (0 : Int)), Rc.d (D.int IntKind.i64 (bits BinOp.and IntKind.i64 (Int.fdiv x (2048 : Int)) (3 : Int))), Rc.d (D.str { data := #[] }), Rc.d (D.int IntKind.i64 (0 : Int))]))))
   (VC.br (asInt (List.getD (List.drop (0 : Nat) (rowAt [[D.int IntKind.i64 (1 : Int)], [D.int IntKind.i64 (1 : Int)], [D.int IntKind.i64 (2 : Int)], [D.int IntKind.i64 (2 : Int)], [D.int IntKind.i64 (2 : Int)], [D.int IntKind.i64 (3 : Int)], [D.int IntKind.i64 (3 : Int)], [D.int IntKind.i64 (4 : Int)], [D.int IntKind.i64 (5 : Int)], [D.int IntKind.i64 (5 : Int)], [D.int IntKind.i64 (5 : Int)], [D.int IntKind.i64 (6 : Int)], [D.int IntKind.i64 (7 : Int)], [D.int IntKind.i64 (8 : Int)], [D.int IntKind.i64 (9 : Int)], [D.int IntKind.i64 (10 : Int)], [D.int IntKind.i64 (11 : Int)], [D.int IntKind.i64 (1 : Int)]] (Int.toNat (Int.tmod (bits BinOp.and IntKind.i64 x (255 : Int)) (18 : Int))))) (0 : Nat) D.nilp) == (4 : Int))
    (VC.need ((0 : Int) ≤ (14 : Int))
    (VC.ret (some (RR.agg [Rc.d (D.int IntKind.i64 (asInt (List.getD (List.drop (0 : Nat) (rowAt [[D.int IntKind.i64 (1 : Int)], [D.int IntKind.i64 (1 : Int)], [D.int IntKind.i64 (2 : Int)], [D.int IntKind.i64 (2 : Int)], [D.int IntKind.i64 (2 : Int)], [D.int IntKind.i64 (3 : Int)], [D.int IntKind.i64 (3 : Int)], [D.int IntKind.i64 (4 : Int)], [D.int IntKind.i64 (5 : Int)], [D.int IntKind.i64 (5 : Int)], [D.int IntKind.i64 (5 : Int)], [D.int IntKind.i64 (6 : Int)], [D.int IntKind.i64 (7 : Int)], [D.int IntKind.i64 (8 : Int)], [D.int IntKind.i64 (9 : Int)], [D.int IntKind.i64 (10 : Int)], [D.int IntKind.i64 (11 : Int)], [D.int IntKind.i64 (1 : Int)]] (Int.toNat (Int.tmod (bits BinOp.and IntKind.i64 x (255 : Int)) (18 : Int))))) (0 : Nat) D.nilp))), Rc.d (D.int IntKind.i64 (0 : Int)), Rc.d (D.int IntKind.i64 (bits BinOp.and IntKind.i64 (Int.fdiv x (16384 : Int)) (3 : Int))), Rc.d (D.bool !bits BinOp.and IntKind.i64 (Int.fdiv x (256 : Int)) (4 : Int) == (0 : Int)), Rc.d (D.int IntKind.i64 (bits BinOp.and IntKind.i64 (Int.fdiv x (256 : Int)) (3 : Int))), Rc.d (D.bool !bits BinOp.and IntKind.i64 (Int.fdiv x (2048 : Int)) (4 : Int) == (0 : Int)), Rc.d (D.int IntKind.i64 (bits BinOp.and IntKind.i64 (Int.fdiv x (2048 : Int)) (3 : Int))), Rc.d (D.str { data := #[] }), Rc.d (D.int IntKind.i64 (0 : Int))]))))
    (VC.br (asInt (List.getD (List.drop (0 : Nat) (rowAt [[D.int IntKind.i64 (1 : Int)], [D.int IntKind.i64 (1 : Int)], [D.int IntKind.i64 (2 : Int)], [D.int IntKind.i64 (2 : Int)], [D.int IntKind.i64 (2 : Int)], [D.int IntKind.i64 (3 : Int)], [D.int IntKind.i64 (3 : Int)], [D.int IntKind.i64 (4 : Int)], [D.int IntKind.i64 (5 : Int)], [D.int IntKind.i64 (5 : Int)], [D.int IntKind.i64 (5 : Int)], [D.int IntKind.i64 (6 : Int)], [D.int IntKind.i64 (7 : Int)], [D.int IntKind.i64 (8 : Int)], [D.int IntKind.i64 (9 : Int)], [D.int IntKind.i64 (10 : Int)], [D.int IntKind.i64 (11 : Int)], [D.int IntKind.i64 (1 : Int)]] (Int.toNat (Int.tmod (bits BinOp.and IntKind.i64 x (255 : Int)) (18 : Int))))) (0 : Nat) D.nilp) == (5 : Int))
     (VC.need ((0 : Int) ≤ (16 : Int))
     (VC.need ((0 : Int) ≤ bits BinOp.and IntKind.i64 (Int.fdiv x (65536 : Int)) (3 : Int) ∧ bits BinOp.and IntKind.i64 (Int.fdiv x (65536 : Int)) (3 : Int) < (4 : Int))
     (VC.need (Int.toNat (bits BinOp.and IntKind.i64 (Int.fdiv x (65536 : Int)) (3 : Int)) < (4 : Nat) ∧ List.length (rowAt [[D.int IntKind.i64 (9 : Int)], [D.int IntKind.i64 (10 : Int)], [D.int IntKind.i64 (3 : Int)], [D.int IntKind.i64 (2 : Int)]] (Int.toNat (bits BinOp.and IntKind.i64 (Int.fdiv x (65536 : Int)) (3 : Int)))) = (1 : Nat) ∧ okSh [Kd.int IntKind.i64] (List.drop (0 : Nat) (rowAt [[D.int IntKind.i64 (9 : Int)], [D.int IntKind.i64 (10 : Int)], [D.int IntKind.i64 (3 : Int)], [D.int IntKind.i64 (2 : Int)]] (Int.toNat (bits BinOp.and IntKind.i64 (Int.fdiv x (65536 : Int)) (3 : Int))))))
     (VC.need ((0 : Int) ≤ (18 : Int))
     (VC.need (IntKind.wrap IntKind.i64 (n + (1 : Int)) ≠ (0 : Int))
     (VC.ret (some (RR.agg [Rc.d (D.int IntKind.i64 (asInt (List.getD (List.drop (0 : Nat) (rowAt [[D.int IntKind.i64 (1 : Int)], [D.int IntKind.i64 (1 : Int)], [D.int IntKind.i64 (2 : Int)], [D.int IntKind.i64 (2 : Int)], [D.int IntKind.i64 (2 : Int)], [D.int IntKind.i64 (3 : Int)], [D.int IntKind.i64 (3 : Int)], [D.int IntKind.i64 (4 : Int)], [D.int IntKind.i64 (5 : Int)], [D.int IntKind.i64 (5 : Int)], [D.int IntKind.i64 (5 : Int)], [D.int IntKind.i64 (6 : Int)], [D.int IntKind.i64 (7 : Int)], [D.int IntKind.i64 (8 : Int)], [D.int IntKind.i64 (9 : Int)], [D.int IntKind.i64 (10 : Int)], [D.int IntKind.i64 (11 : Int)], [D.int IntKind.i64 (1 : Int)]] (Int.toNat (Int.tmod (bits BinOp.and IntKind.i64 x (255 : Int)) (18 : Int))))) (0 : Nat) D.nilp))), Rc.d (D.int IntKind.i64 (asInt (List.getD (List.drop (0 : Nat) (rowAt [[D.int IntKind.i64 (9 : Int)], [D.int IntKind.i64 (10 : Int)], [D.int IntKind.i64 (3 : Int)], [D.int IntKind.i64 (2 : Int)]] (Int.toNat (bits BinOp.and IntKind.i64 (Int.fdiv x (65536 : Int)) (3 : Int))))) (0 : Nat) D.nilp))), Rc.d (D.int IntKind.i64 (0 : Int)), Rc.d (D.bool !bits BinOp.and IntKind.i64 (Int.fdiv x (256 : Int)) (4 : Int) == (0 : Int)), Rc.d (D.int IntKind.i64 (bits BinOp.and IntKind.i64 (Int.fdiv x (256 : Int)) (3 : Int))), Rc.d (D.bool !bits BinOp.and IntKind.i64 (Int.fdiv x (2048 : Int)) (4 : Int) == (0 : Int)), Rc.d (D.int IntKind.i64 (bits BinOp.and IntKind.i64 (Int.fdiv x (2048 : Int)) (3 : Int))), Rc.d (D.str { data := #[] }), Rc.d (D.int IntKind.i64 (Int.tmod (bits BinOp.and IntKind.i64 (Int.fdiv x (262144 : Int)) (255 : Int)) (IntKind.wrap IntKind.i64 (n + (1 : Int)))))]))))))))
     (VC.br (asInt (List.getD (List.drop (0 : Nat) (rowAt [[D.int IntKind.i64 (1 : Int)], [D.int IntKind.i64 (1 : Int)], [D.int IntKind.i64 (2 : Int)], [D.int IntKind.i64 (2 : Int)], [D.int IntKind.i64 (2 : Int)], [D.int IntKind.i64 (3 : Int)], [D.int IntKind.i64 (3 : Int)], [D.int IntKind.i64 (4 : Int)], [D.int IntKind.i64 (5 : Int)], [D.int IntKind.i64 (5 : Int)], [D.int IntKind.i64 (5 : Int)], [D.int IntKind.i64 (6 : Int)], [D.int IntKind.i64 (7 : Int)], [D.int IntKind.i64 (8 : Int)], [D.int IntKind.i64 (9 : Int)], [D.int IntKind.i64 (10 : Int)], [D.int IntKind.i64 (11 : Int)], [D.int IntKind.i64 (1 : Int)]] (Int.toNat (Int.tmod (bits BinOp.and IntKind.i64 x (255 : Int)) (18 : Int))))) (0 : Nat) D.nilp) == (6 : Int))
      (VC.need ((0 : Int) ≤ (18 : Int))
      (VC.need (IntKind.wrap IntKind.i64 (n + (1 : Int)) ≠ (0 : Int))
      (VC.ret (some (RR.agg [Rc.d (D.int IntKind.i64 (asInt (List.getD (List.drop (0 : Nat) (rowAt [[D.int IntKind.i64 (1 : Int)], [D.int IntKind.i64 (1 : Int)], [D.int IntKind.i64 (2 : Int)], [D.int IntKind.i64 (2 : Int)], [D.int IntKind.i64 (2 : Int)], [D.int IntKind.i64 (3 : Int)], [D.int IntKind.i64 (3 : Int)], [D.int IntKind.i64 (4 : Int)], [D.int IntKind.i64 (5 : Int)], [D.int IntKind.i64 (5 : Int)], [D.int IntKind.i64 (5 : Int)], [D.int IntKind.i64 (6 : Int)], [D.int IntKind.i64 (7 : Int)], [D.int IntKind.i64 (8 : Int)], [D.int IntKind.i64 (9 : Int)], [D.int IntKind.i64 (10 : Int)], [D.int IntKind.i64 (11 : Int)], [D.int IntKind.i64 (1 : Int)]] (Int.toNat (Int.tmod (bits BinOp.and IntKind.i64 x (255 : Int)) (18 : Int))))) (0 : Nat) D.nilp))), Rc.d (D.int IntKind.i64 (0 : Int)), Rc.d (D.int IntKind.i64 (0 : Int)), Rc.d (D.bool false), Rc.d (D.int IntKind.i64 (0 : Int)), Rc.d (D.bool false), Rc.d (D.int IntKind.i64 (0 : Int)), Rc.d (D.str { data := #[] }), Rc.d (D.int IntKind.i64 (Int.tmod (bits BinOp.and IntKind.i64 (Int.fdiv x (262144 : Int)) (255 : Int)) (IntKind.wrap IntKind.i64 (n + (1 : Int)))))])))))
      (VC.br (asInt (List.getD (List.drop (0 : Nat) (rowAt [[D.int IntKind.i64 (1 : Int)], [D.int IntKind.i64 (1 : Int)], [D.int IntKind.i64 (2 : Int)], [D.int IntKind.i64 (2 : Int)], [D.int IntKind.i64 (2 : Int)], [D.int IntKind.i64 (3 : Int)], [D.int IntKind.i64 (3 : Int)], [D.int IntKind.i64 (4 : Int)], [D.int IntKind.i64 (5 : Int)], [D.int IntKind.i64 (5 : Int)], [D.int IntKind.i64 (5 : Int)], [D.int IntKind.i64 (6 : Int)], [D.int IntKind.i64 (7 : Int)], [D.int IntKind.i64 (8 : Int)], [D.int IntKind.i64 (9 : Int)], [D.int IntKind.i64 (10 : Int)], [D.int IntKind.i64 (11 : Int)], [D.int IntKind.i64 (1 : Int)]] (Int.toNat (Int.tmod (bits BinOp.and IntKind.i64 x (255 : Int)) (18 : Int))))) (0 : Nat) D.nilp) == (8 : Int))
       (VC.need ((0 : Int) ≤ (18 : Int))
       (VC.need (IntKind.wrap IntKind.i64 (n + (1 : Int)) ≠ (0 : Int))
       (VC.ret (some (RR.agg [Rc.d (D.int IntKind.i64 (asInt (List.getD (List.drop (0 : Nat) (rowAt [[D.int IntKind.i64 (1 : Int)], [D.int IntKind.i64 (1 : Int)], [D.int IntKind.i64 (2 : Int)], [D.int IntKind.i64 (2 : Int)], [D.int IntKind.i64 (2 : Int)], [D.int IntKind.i64 (3 : Int)], [D.int IntKind.i64 (3 : Int)], [D.int IntKind.i64 (4 : Int)], [D.int IntKind.i64 (5 : Int)], [D.int IntKind.i64 (5 : Int)], [D.int IntKind.i64 (5 : Int)], [D.int IntKind.i64 (6 : Int)], [D.int IntKind.i64 (7 : Int)], [D.int IntKind.i64 (8 : Int)], [D.int IntKind.i64 (9 : Int)], [D.int IntKind.i64 (10 : Int)], [D.int IntKind.i64 (11 : Int)], [D.int IntKind.i64 (1 : Int)]] (Int.toNat (Int.tmod (bits BinOp.and IntKind.i64 x (255 : Int)) (18 : Int))))) (0 : Nat) D.nilp))), Rc.d (D.int IntKind.i64 (0 : Int)), Rc.d (D.int IntKind.i64 (0 : Int)), Rc.d (D.bool false), Rc.d (D.int IntKind.i64 (0 : Int)), Rc.d (D.bool false), Rc.d (D.int IntKind.i64 (0 : Int)), Rc.d (D.str { data := #[] }), Rc.d (D.int IntKind.i64 (Int.tmod (bits BinOp.and IntKind.i64 (Int.fdiv x (262144 : Int)) (255 : Int)) (IntKind.wrap IntKind.i64 (n + (1 : Int)))))])))))
       (VC.br (asInt (List.getD (List.drop (0 : Nat) (rowAt [[D.int IntKind.i64 (1 : Int)], [D.int IntKind.i64 (1 : Int)], [D.int IntKind.i64 (2 : Int)], [D.int IntKind.i64 (2 : Int)], [D.int IntKind.i64 (2 : Int)], [D.int IntKind.i64 (3 : Int)], [D.int IntKind.i64 (3 : Int)], [D.int IntKind.i64 (4 : Int)], [D.int IntKind.i64 (5 : Int)], [D.int IntKind.i64 (5 : Int)], [D.int IntKind.i64 (5 : Int)], [D.int IntKind.i64 (6 : Int)], [D.int IntKind.i64 (7 : Int)], [D.int IntKind.i64 (8 : Int)], [D.int IntKind.i64 (9 : Int)], [D.int IntKind.i64 (10 : Int)], [D.int IntKind.i64 (11 : Int)], [D.int IntKind.i64 (1 : Int)]] (Int.toNat (Int.tmod (bits BinOp.and IntKind.i64 x (255 : Int)) (18 : Int))))) (0 : Nat) D.nilp) == (7 : Int))
        (VC.ret (some (RR.agg [Rc.d (D.int IntKind.i64 (asInt (List.getD (List.drop (0 : Nat) (rowAt [[D.int IntKind.i64 (1 : Int)], [D.int IntKind.i64 (1 : Int)], [D.int IntKind.i64 (2 : Int)], [D.int IntKind.i64 (2 : Int)], [D.int IntKind.i64 (2 : Int)], [D.int IntKind.i64 (3 : Int)], [D.int IntKind.i64 (3 : Int)], [D.int IntKind.i64 (4 : Int)], [D.int IntKind.i64 (5 : Int)], [D.int IntKind.i64 (5 : Int)], [D.int IntKind.i64 (5 : Int)], [D.int IntKind.i64 (6 : Int)], [D.int IntKind.i64 (7 : Int)], [D.int IntKind.i64 (8 : Int)], [D.int IntKind.i64 (9 : Int)], [D.int IntKind.i64 (10 : Int)], [D.int IntKind.i64 (11 : Int)], [D.int IntKind.i64 (1 : Int)]] (Int.toNat (Int.tmod (bits BinOp.and IntKind.i64 x (255 : Int)) (18 : Int))))) (0 : Nat) D.nilp))), Rc.d (D.int IntKind.i64 (0 : Int)), Rc.d (D.int IntKind.i64 (0 : Int)), Rc.d (D.bool !bits BinOp.and IntKind.i64 (Int.fdiv x (256 : Int)) (4 : Int) == (0 : Int)), Rc.d (D.int IntKind.i64 (bits BinOp.and IntKind.i64 (Int.fdiv x (256 : Int)) (3 : Int))), Rc.d (D.bool false), Rc.d (D.int IntKind.i64 (0 : Int)), Rc.d (D.str { data := #[] }), Rc.d (D.int IntKind.i64 (0 : Int))])))
        (VC.ret (some (RR.agg [Rc.d (D.int IntKind.i64 (asInt (List.getD (List.drop (0 : Nat) (rowAt [[D.int IntKind.i64 (1 : Int)], [D.int IntKind.i64 (1 : Int)], [D.int IntKind.i64 (2 : Int)], [D.int IntKind.i64 (2 : Int)], [D.int IntKind.i64 (2 : Int)], [D.int IntKind.i64 (3 : Int)], [D.int IntKind.i64 (3 : Int)], [D.int IntKind.i64 (4 : Int)], [D.int IntKind.i64 (5 : Int)], [D.int IntKind.i64 (5 : Int)], [D.int IntKind.i64 (5 : Int)], [D.int IntKind.i64 (6 : Int)], [D.int IntKind.i64 (7 : Int)], [D.int IntKind.i64 (8 : Int)], [D.int IntKind.i64 (9 : Int)], [D.int IntKind.i64 (10 : Int)], [D.int IntKind.i64 (11 : Int)], [D.int IntKind.i64 (1 : Int)]] (Int.toNat (Int.tmod (bits BinOp.and IntKind.i64 x (255 : Int)) (18 : Int))))) (0 : Nat) D.nilp))), Rc.d (D.int IntKind.i64 (0 : Int)), Rc.d (D.int IntKind.i64 (0 : Int)), Rc.d (D.bool false), Rc.d (D.int IntKind.i64 (0 : Int)), Rc.d (D.bool false), Rc.d (D.int IntKind.i64 (0 : Int)), Rc.d (D.str { data := #[] }), Rc.d (D.int IntKind.i64 (0 : Int))])))))))))))))))))) := by kernel_rfl
theorem x_lins (x n : Int) (h0 : 1 ≤ n ∧ n ≤ 1000) : ∃ r, (fun r => ∃ i : Ins, WFI n i ∧ r = .agg ((row i).map .d)) r ∧ ACalls Try.prog 73 [ai x, ai n] r := by
  refine acalls_some s_lins_sound (fn := Try.f73) (a := a_lins) (nargs := 2) (tbl := []) (by kernel_rfl) (by kernel_rfl) rfl (m := 400) ?_
  show VC.holds _ _ _ (a_lins.start s_lins 400 [ai x, ai n])
  rw [t_lins]
  try simp only [asRows_sl, asInt_int, asBool_bool, asStr_str, listOf_rowsOn, List.drop_zero, Prg.eta, Sta.eta, rowsOn_length, getD_drop, Nat.reduceAdd, rd_int, rd_PMem_name, rd_PMem_secret, rd_PMem_n, rd_PLabel_name, rd_PLabel_at_, rd_Ins_kind, rd_Ins_op, rd_Ins_d, rd_Ins_aR, rd_Ins_aN, rd_Ins_bR, rd_Ins_bN, rd_Ins_name, rd_Ins_target, rd_Ent_pc, rd_Ent_val, rd_Ent_addr, rd_Ent_fro, rd_Ent_next, rd_Ent_done, rd_Ent_known, rd_Ent_fault, rd_Place_reg, rd_Place_n, rd_Place_secret, rd_Obs_kind, rd_Obs_at_, rd_Dir_kind, rd_Dir_n]
  simp only [tmod255, and3, valM]
  rw [wrap_small (n + 1) (by omega) (by omega), wrap_small (Int.fdiv x 65536 % 256 % 10 + 1) (by omega) (by omega)]
  have hm : ∀ y : Int, 0 ≤ y % 256 % (n + 1) ∧ y % 256 % (n + 1) ≤ n := fun y => by
    have h1 := Int.emod_nonneg (y % 256) (show n + 1 ≠ 0 by omega)
    have h2 := Int.emod_lt_of_pos (y % 256) (show 0 < n + 1 by omega)
    omega
  have h1 := tabK (x % 256 % 18).toNat (by omega)
  have h2 := tabO (Int.fdiv x 65536 % 4).toNat (by omega)
  refine ⟨by decide, ⟨by omega, by omega⟩, ⟨by omega, h1.2.1, h1.2.2⟩, by decide, PreOk.mk trivial rfl, by decide, PreOk.mk trivial rfl, ?_⟩
  obtain ⟨h3, _⟩ := h1
  revert h3
  generalize asInt (List.getD (rowAt _ (x % 256 % 18).toNat) 0 D.nilp) = kd
  intro h3
  obtain ⟨h2a, h2⟩ := h2
  revert h2a
  generalize asInt (List.getD (rowAt _ (Int.fdiv x 65536 % 4).toNat) 0 D.nilp) = ko
  intro h2a
  have h5 := hm (Int.fdiv x 262144)
  repeat' first
    | refine br_not ?_
    | refine br_dec (fun _ => ?_) (fun _ => ?_)
    | refine br_beq (fun _ => ?_) (fun _ => ?_)
    | refine br_bne (fun _ => ?_) (fun _ => ?_)
    | refine br_holds (fun _ => ?_) (fun _ => ?_)
    | refine ⟨PreOk.mk ?_ rfl, ?_⟩
    | refine ⟨idx_ok _ _ _ rfl (by omega) (by omega), ?_⟩
    | refine ⟨okSh_ok _ _ _ (fun _ => rfl) (by omega) (by omega), ?_⟩
    | refine ⟨okSh_okD _ _ _ _ (fun _ => rfl) (by omega) (by omega), ?_⟩
    | refine ⟨aload_ok _ _ rfl (fun _ => rfl) (by omega) (by omega), ?_⟩
    | refine ⟨aload_okD _ _ _ rfl (fun _ => rfl) (by omega) (by omega), ?_⟩
    | refine ⟨astore_ok (by assumption) rfl (by omega) (by omega) (by decide), ?_⟩
    | refine ⟨app_ok (by assumption) rfl rfl (by simp only [List.length_cons, List.length_nil]; omega), ?_⟩
    | refine need_holds ?_ fun _ => ?_
    | refine all_holds fun y hy => ?_
    | refine ret_eq ?_
  all_goals try exact ⟨by omega, h2.1, h2.2⟩
  all_goals try omega
  all_goals
    refine ⟨⟨_, _, _, _, _, _, _, _, _⟩, ?_, rfl⟩
    exact ⟨by dsimp only; omega, by dsimp only; omega, by dsimp only; omega, by dsimp only; omega, by dsimp only; omega, by dsimp only; omega⟩
theorem insM_spec (x n : Int) (h : 1 ≤ n ∧ n ≤ 1000) : WFI n (insM x n) ∧ ACalls Try.prog 73 [ai x, ai n] (.agg ((row (insM x n)).map .d)) := by
  obtain ⟨r, ⟨i, h1, rfl⟩, h2⟩ := x_lins x n h
  exact pick_spec (Q := fun i => WFI n i ∧ ACalls Try.prog 73 [ai x, ai n] (.agg ((row i).map .d))) ⟨i, h1, h2⟩
theorem c_lins_good : c_lins.fe.Good Try.prog := FT.good c_lins ⟨Try.f73, by kernel_rfl, by decide +kernel, by kernel_rfl⟩ (fun _ => rfl) fun x hx => (insM_spec x.1 x.2 hx).2
def digS (n : Int) : ByteArray := if n = 0 then ⟨#[48]⟩ else if n = 1 then ⟨#[49]⟩ else if n = 2 then ⟨#[50]⟩ else if n = 3 then ⟨#[51]⟩ else if n = 4 then ⟨#[52]⟩ else if n = 5 then ⟨#[53]⟩ else if n = 6 then ⟨#[54]⟩ else if n = 7 then ⟨#[55]⟩ else if n = 8 then ⟨#[56]⟩ else ⟨#[57]⟩
theorem dig_calls (n : Int) (h : 0 ≤ n ∧ n ≤ 9) : ACalls Try.prog 72 [ai n] (.c (.d (.str (digS n)))) := by
  have : n = 0 ∨ n = 1 ∨ n = 2 ∨ n = 3 ∨ n = 4 ∨ n = 5 ∨ n = 6 ∨ n = 7 ∨ n = 8 ∨ n = 9 := by omega
  rcases this with h | h | h | h | h | h | h | h | h | h <;> (subst h; exact (axN_sound extE_sound (n := 20) 2 (by kernel_rfl)).1)
def c_dig1 : FT Int := ⟨72, fun n => [ai n], rdI1, fun n => 0 ≤ n ∧ n ≤ 9, fun n => .c (.d (.str (digS n))), false, fun _ => rfl⟩
theorem c_dig1_good : c_dig1.fe.Good Try.prog := FT.good c_dig1 ⟨Try.f72, by kernel_rfl, by decide +kernel, by kernel_rfl⟩ (fun _ => rfl) fun n hn => dig_calls n hn
end Go.Proofs.Ytclabjihjopclaa.Ax
