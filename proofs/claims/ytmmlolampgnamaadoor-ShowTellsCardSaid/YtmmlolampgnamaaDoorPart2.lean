/- Several texts in one, in their order. -/
import Derived.Test.YtmmlolampgnamaaDoorPart1
import Derived.Test.YtmmlolampgnamaaDoorAx22
import Derived.Test.YtmmlolampgnamaaDoorAx24
import Derived.Test.YtmmlolampgnamaaDoorAxW
section
/- Clones; and what computing may take from outside. -/
namespace Go.Proofs.YtmmlolampgnamaaDoor.Ax
open Go.RowKit
set_option linter.unusedVariables false
set_option linter.unusedSimpArgs false
/-- A list alone: beside (), so that it is not taken apart where the trees are printed. -/
def rdL {α : Type} [Row α] : List A → List α × Unit
  | [.c (.sl r)] => (listOf α r, ())
  | _ => ([], ())
def rnewI (l : List Int) : RR := .c (.new 1 (rowsOn l))
def rnewE (l : List Ent) : RR := .c (.new 8 (rowsOn l))
def rd0 : List A → Unit := fun _ => ()
end Go.Proofs.YtmmlolampgnamaaDoor.Ax
end

section
/- Programs of numbers: augurylaw6.Make answers one that is well made. -/
namespace Go.Proofs.YtmmlolampgnamaaDoor.Ax
open Go.RowKit
set_option linter.unusedVariables false
set_option linter.unusedSimpArgs false
structure WFI (n : Int) (i : Ins) : Prop where
  kind : 1 ≤ i.kind ∧ i.kind ≤ 11
  op : 0 ≤ i.op ∧ i.op ≤ 10
  d : 0 ≤ i.d ∧ i.d < 4
  aN : 0 ≤ i.aN ∧ i.aN < 4
  bN : 0 ≤ i.bN ∧ i.bN < 4
  target : 0 ≤ i.target ∧ i.target ≤ n
def rdLI : List A → List Int × Int
  | [.c (.int _ i), .c (.rptr [.sl r])] => (listOf Int r, i)
  | _ => ([], 0)
def kS (l : List Int) (i : Int) : Int := if i < l.length then rd l i else i
def c_mkk : FT (List Int × Int) := ⟨15, fun x => [ai x.2, .c (.rptr [.sl (rowsOn x.1)])], rdLI, fun x => 0 ≤ x.2, fun x => ri (kS x.1 x.2), false, fun x => by simp [ai, rdLI]⟩
noncomputable def a_mkk : FnA := (fnA Tryd.prog Tryd.f15 2 []).getD ⟨0, .skip, [], []⟩
def s_mkk : Sp := spT []
theorem s_mkk_sound : s_mkk.sound Tryd.prog := spT_sound fun e he => by cases he
set_option maxRecDepth 100000 in
theorem t_mkk (l : List Int) (i : Int) : a_mkk.start s_mkk 400 [ai i, .c (.rptr [.sl (rowsOn l)])] =
(VC.need (okSh [Kd.sl] [D.sl (rowsOn l)])
(VC.br (decide (i < (↑(List.length (asRows (D.sl (rowsOn l)))) : Int)))
 (VC.need (okSh [Kd.sl] [D.sl (rowsOn l)])
 (VC.need ((0 : Int) ≤ i ∧ i < (↑(List.length (asRows (D.sl (rowsOn l)))) : Int) ∧ List.length (rowAt (asRows (D.sl (rowsOn l))) (Int.toNat i)) = (1 : Nat))
 (VC.need (okSh [Kd.int IntKind.i64] (rowAt (asRows (D.sl (rowsOn l))) (Int.toNat i)))
 (VC.ret (some (RR.c (Rc.d (D.int IntKind.i64 (asInt (List.getD (rowAt (asRows (D.sl (rowsOn l))) (Int.toNat i)) (0 : Nat) D.nilp))))))))))
 (VC.ret (some (RR.c (Rc.d (D.int IntKind.i64 i))))))) := by kernel_rfl
theorem c_mkk_good : c_mkk.fe.Good Tryd.prog := by
  refine FT.good c_mkk ⟨Tryd.f15, by kernel_rfl, by decide +kernel, by kernel_rfl⟩ (fun ⟨l, i⟩ => by first | rfl | simp [c_mkk, rrRef, rnewI, rnewE, rstab, rplaces, ri, rb, rib, Sta.fresh]) fun ⟨l, i⟩ hp => ?_
  refine acalls_le s_mkk_sound (fn := Tryd.f15) (a := a_mkk) (nargs := 2) (tbl := []) (by kernel_rfl) (by kernel_rfl) rfl (m := 400) ?_
  show VC.holds _ _ _ (a_mkk.start s_mkk 400 [ai i, .c (.rptr [.sl (rowsOn l)])])
  rw [t_mkk]
  try simp only [asRows_sl, asInt_int, asBool_bool, asStr_str, listOf_rowsOn, List.drop_zero, Prg.eta, Sta.eta, rowsOn_length, getD_drop, Nat.reduceAdd, rd_int, rd_PMem_name, rd_PMem_secret, rd_PMem_n, rd_PLabel_name, rd_PLabel_at_, rd_Ins_kind, rd_Ins_op, rd_Ins_d, rd_Ins_aR, rd_Ins_aN, rd_Ins_bR, rd_Ins_bN, rd_Ins_name, rd_Ins_target, rd_Ent_pc, rd_Ent_val, rd_Ent_addr, rd_Ent_fro, rd_Ent_next, rd_Ent_done, rd_Ent_known, rd_Ent_fault, rd_Place_reg, rd_Place_n, rd_Place_secret, rd_Obs_kind, rd_Obs_at_, rd_Dir_kind, rd_Dir_n]
  try simp only [c_mkk] at hp
  refine ⟨rfl, ?_⟩
  refine br_dec (fun h => ?_) (fun h => ?_)
  · refine ⟨rfl, idx_ok _ _ _ rfl hp h, okSh_ok _ _ _ (fun _ => rfl) hp h, ret_eq ?_⟩
    simp only [c_mkk, kS, if_pos h]
    rfl
  · refine ret_eq ?_
    simp only [c_mkk, kS, if_neg h]
    rfl
def valM (n : Int) : Bool × Int := (!(bits .and .i64 n 4 == 0), bits .and .i64 n 3)
def c_lval : FT Int := ⟨37, fun n => [ai n], rdI1, fun _ => True, fun n => .agg [.d (.bool (valM n).1), .d (.int .i64 (valM n).2)], false, fun _ => rfl⟩
noncomputable def a_lval : FnA := (fnA Tryd.prog Tryd.f37 1 []).getD ⟨0, .skip, [], []⟩
def s_lval : Sp := spT []
theorem s_lval_sound : s_lval.sound Tryd.prog := spT_sound fun e he => by cases he
set_option maxRecDepth 100000 in
theorem t_lval (n : Int) : a_lval.start s_lval 400 [ai n] =
(VC.br (bits BinOp.and IntKind.i64 n (4 : Int) == (0 : Int))
 (VC.ret (some (RR.agg [Rc.d (D.bool false), Rc.d (D.int IntKind.i64 (bits BinOp.and IntKind.i64 n (3 : Int)))])))
 (VC.ret (some (RR.agg [Rc.d (D.bool true), Rc.d (D.int IntKind.i64 (bits BinOp.and IntKind.i64 n (3 : Int)))])))) := by kernel_rfl
theorem c_lval_good : c_lval.fe.Good Tryd.prog := by
  refine FT.good c_lval ⟨Tryd.f37, by kernel_rfl, by decide +kernel, by kernel_rfl⟩ (fun n => by first | rfl | simp [c_lval, rrRef, rnewI, rnewE, rstab, rplaces, ri, rb, rib, Sta.fresh]) fun n hp => ?_
  refine acalls_le s_lval_sound (fn := Tryd.f37) (a := a_lval) (nargs := 1) (tbl := []) (by kernel_rfl) (by kernel_rfl) rfl (m := 400) ?_
  show VC.holds _ _ _ (a_lval.start s_lval 400 [ai n])
  rw [t_lval]
  try simp only [asRows_sl, asInt_int, asBool_bool, asStr_str, listOf_rowsOn, List.drop_zero, Prg.eta, Sta.eta, rowsOn_length, getD_drop, Nat.reduceAdd, rd_int, rd_PMem_name, rd_PMem_secret, rd_PMem_n, rd_PLabel_name, rd_PLabel_at_, rd_Ins_kind, rd_Ins_op, rd_Ins_d, rd_Ins_aR, rd_Ins_aN, rd_Ins_bR, rd_Ins_bN, rd_Ins_name, rd_Ins_target, rd_Ent_pc, rd_Ent_val, rd_Ent_addr, rd_Ent_fro, rd_Ent_next, rd_Ent_done, rd_Ent_known, rd_Ent_fault, rd_Place_reg, rd_Place_n, rd_Place_secret, rd_Obs_kind, rd_Obs_at_, rd_Dir_kind, rd_Dir_n]
  try simp only [c_lval] at hp
  refine br_holds (fun h => ?_) (fun h => ?_)
  · refine ret_eq ?_
    simp only [c_lval, valM, h]
    rfl
  · refine ret_eq ?_
    simp only [c_lval, valM, h]
    rfl
noncomputable def insM (x n : Int) : Ins := pick fun i => WFI n i ∧ ACalls Tryd.prog 17 [ai x, ai n] (.agg ((row i).map .d))
noncomputable def c_lins : FT (Int × Int) := ⟨17, fun x => [ai x.1, ai x.2], rdI2, fun x => 1 ≤ x.2 ∧ x.2 ≤ 1000, fun x => .agg ((row (insM x.1 x.2)).map .d), false, fun _ => rfl⟩
theorem tabK : ∀ i : Nat, i < 18 → (1 ≤ asInt (List.getD (rowAt [[D.int IntKind.i64 (1 : Int)], [D.int IntKind.i64 (1 : Int)], [D.int IntKind.i64 (2 : Int)], [D.int IntKind.i64 (2 : Int)], [D.int IntKind.i64 (2 : Int)], [D.int IntKind.i64 (3 : Int)], [D.int IntKind.i64 (3 : Int)], [D.int IntKind.i64 (4 : Int)], [D.int IntKind.i64 (5 : Int)], [D.int IntKind.i64 (5 : Int)], [D.int IntKind.i64 (5 : Int)], [D.int IntKind.i64 (6 : Int)], [D.int IntKind.i64 (7 : Int)], [D.int IntKind.i64 (8 : Int)], [D.int IntKind.i64 (9 : Int)], [D.int IntKind.i64 (10 : Int)], [D.int IntKind.i64 (11 : Int)], [D.int IntKind.i64 (1 : Int)]] i) 0 D.nilp) ∧ asInt (List.getD (rowAt [[D.int IntKind.i64 (1 : Int)], [D.int IntKind.i64 (1 : Int)], [D.int IntKind.i64 (2 : Int)], [D.int IntKind.i64 (2 : Int)], [D.int IntKind.i64 (2 : Int)], [D.int IntKind.i64 (3 : Int)], [D.int IntKind.i64 (3 : Int)], [D.int IntKind.i64 (4 : Int)], [D.int IntKind.i64 (5 : Int)], [D.int IntKind.i64 (5 : Int)], [D.int IntKind.i64 (5 : Int)], [D.int IntKind.i64 (6 : Int)], [D.int IntKind.i64 (7 : Int)], [D.int IntKind.i64 (8 : Int)], [D.int IntKind.i64 (9 : Int)], [D.int IntKind.i64 (10 : Int)], [D.int IntKind.i64 (11 : Int)], [D.int IntKind.i64 (1 : Int)]] i) 0 D.nilp) ≤ 11) ∧ (rowAt [[D.int IntKind.i64 (1 : Int)], [D.int IntKind.i64 (1 : Int)], [D.int IntKind.i64 (2 : Int)], [D.int IntKind.i64 (2 : Int)], [D.int IntKind.i64 (2 : Int)], [D.int IntKind.i64 (3 : Int)], [D.int IntKind.i64 (3 : Int)], [D.int IntKind.i64 (4 : Int)], [D.int IntKind.i64 (5 : Int)], [D.int IntKind.i64 (5 : Int)], [D.int IntKind.i64 (5 : Int)], [D.int IntKind.i64 (6 : Int)], [D.int IntKind.i64 (7 : Int)], [D.int IntKind.i64 (8 : Int)], [D.int IntKind.i64 (9 : Int)], [D.int IntKind.i64 (10 : Int)], [D.int IntKind.i64 (11 : Int)], [D.int IntKind.i64 (1 : Int)]] i).length = 1 ∧ okSh [Kd.int IntKind.i64] (rowAt [[D.int IntKind.i64 (1 : Int)], [D.int IntKind.i64 (1 : Int)], [D.int IntKind.i64 (2 : Int)], [D.int IntKind.i64 (2 : Int)], [D.int IntKind.i64 (2 : Int)], [D.int IntKind.i64 (3 : Int)], [D.int IntKind.i64 (3 : Int)], [D.int IntKind.i64 (4 : Int)], [D.int IntKind.i64 (5 : Int)], [D.int IntKind.i64 (5 : Int)], [D.int IntKind.i64 (5 : Int)], [D.int IntKind.i64 (6 : Int)], [D.int IntKind.i64 (7 : Int)], [D.int IntKind.i64 (8 : Int)], [D.int IntKind.i64 (9 : Int)], [D.int IntKind.i64 (10 : Int)], [D.int IntKind.i64 (11 : Int)], [D.int IntKind.i64 (1 : Int)]] i) := by
  intro i hi
  have : i = 0 ∨ i = 1 ∨ i = 2 ∨ i = 3 ∨ i = 4 ∨ i = 5 ∨ i = 6 ∨ i = 7 ∨ i = 8 ∨ i = 9 ∨ i = 10 ∨ i = 11 ∨ i = 12 ∨ i = 13 ∨ i = 14 ∨ i = 15 ∨ i = 16 ∨ i = 17 := by omega
  rcases this with h | h | h | h | h | h | h | h | h | h | h | h | h | h | h | h | h | h <;> (subst h; exact ⟨by decide, rfl, rfl⟩)
theorem tabO : ∀ i : Nat, i < 4 → (0 ≤ asInt (List.getD (rowAt [[D.int IntKind.i64 (9 : Int)], [D.int IntKind.i64 (10 : Int)], [D.int IntKind.i64 (3 : Int)], [D.int IntKind.i64 (2 : Int)]] i) 0 D.nilp) ∧ asInt (List.getD (rowAt [[D.int IntKind.i64 (9 : Int)], [D.int IntKind.i64 (10 : Int)], [D.int IntKind.i64 (3 : Int)], [D.int IntKind.i64 (2 : Int)]] i) 0 D.nilp) ≤ 10) ∧ (rowAt [[D.int IntKind.i64 (9 : Int)], [D.int IntKind.i64 (10 : Int)], [D.int IntKind.i64 (3 : Int)], [D.int IntKind.i64 (2 : Int)]] i).length = 1 ∧ okSh [Kd.int IntKind.i64] (rowAt [[D.int IntKind.i64 (9 : Int)], [D.int IntKind.i64 (10 : Int)], [D.int IntKind.i64 (3 : Int)], [D.int IntKind.i64 (2 : Int)]] i) := by
  intro i hi
  have : i = 0 ∨ i = 1 ∨ i = 2 ∨ i = 3 := by omega
  rcases this with h | h | h | h <;> (subst h; exact ⟨by decide, rfl, rfl⟩)
theorem tmod255 (y k : Int) : Int.tmod (bits .and .i64 y 255) k = (y % 256) % k := by
  rw [and255, Int.tmod_eq_emod_of_nonneg (by omega)]
noncomputable def a_lins : FnA := (fnA Tryd.prog Tryd.f17 2 []).getD ⟨0, .skip, [], []⟩
def s_lins : Sp := spT [c_lval.fe]
theorem s_lins_sound : s_lins.sound Tryd.prog := spT_sound fun e he => by
  simp only [List.mem_cons, List.not_mem_nil, or_false] at he
  rcases he with rfl
  · exact c_lval_good
set_option maxRecDepth 100000 in
theorem t_lins (x n : Int) : a_lins.start s_lins 400 [ai x, ai n] =
(VC.need ((18 : Int) ≠ (0 : Int))
(VC.need ((0 : Int) ≤ Int.tmod (bits BinOp.and IntKind.i64 x (255 : Int)) (18 : Int) ∧ Int.tmod (bits BinOp.and IntKind.i64 x (255 : Int)) (18 : Int) < (18 : Int))
(VC.need (Int.toNat (Int.tmod (bits BinOp.and IntKind.i64 x (255 : Int)) (18 : Int)) < (18 : Nat) ∧ List.length (rowAt [[D.int IntKind.i64 (1 : Int)], [D.int IntKind.i64 (1 : Int)], [D.int IntKind.i64 (2 : Int)], [D.int IntKind.i64 (2 : Int)], [D.int IntKind.i64 (2 : Int)], [D.int IntKind.i64 (3 : Int)], [D.int IntKind.i64 (3 : Int)], [D.int IntKind.i64 (4 : Int)], [D.int IntKind.i64 (5 : Int)], [D.int IntKind.i64 (5 : Int)], [D.int IntKind.i64 (5 : Int)], [D.int IntKind.i64 (6 : Int)], [D.int IntKind.i64 (7 : Int)], [D.int IntKind.i64 (8 : Int)], [D.int IntKind.i64 (9 : Int)], [D.int IntKind.i64 (10 : Int)], [D.int IntKind.i64 (11 : Int)], [D.int IntKind.i64 (1 : Int)]] (Int.toNat (Int.tmod (bits BinOp.and IntKind.i64 x (255 : Int)) (18 : Int)))) = (1 : Nat) ∧ okSh [Kd.int IntKind.i64] (List.drop (0 : Nat) (rowAt [[D.int IntKind.i64 (1 : Int)], [D.int IntKind.i64 (1 : Int)], [D.int IntKind.i64 (2 : Int)], [D.int IntKind.i64 (2 : Int)], [D.int IntKind.i64 (2 : Int)], [D.int IntKind.i64 (3 : Int)], [D.int IntKind.i64 (3 : Int)], [D.int IntKind.i64 (4 : Int)], [D.int IntKind.i64 (5 : Int)], [D.int IntKind.i64 (5 : Int)], [D.int IntKind.i64 (5 : Int)], [D.int IntKind.i64 (6 : Int)], [D.int IntKind.i64 (7 : Int)], [D.int IntKind.i64 (8 : Int)], [D.int IntKind.i64 (9 : Int)], [D.int IntKind.i64 (10 : Int)], [D.int IntKind.i64 (11 : Int)], [D.int IntKind.i64 (1 : Int)]] (Int.toNat (Int.tmod (bits BinOp.and IntKind.i64 x (255 : Int)) (18 : Int))))))
(VC.need ((0 : Int) ≤ (8 : Int))
(VC.need (PreOk c_lval (Int.fdiv x (256 : Int)) [A.c (D.int IntKind.i64 (Int.fdiv x (256 : Int)))])
(VC.need ((0 : Int) ≤ (11 : Int))
(VC.need (PreOk c_lval (Int.fdiv x (2048 : Int)) [A.c (D.int IntKind.i64 (Int.fdiv x (2048 : Int)))])
(VC.br (asInt (List.getD (List.drop (0 : Nat) (rowAt [[D.int IntKind.i64 (1 : Int)], [D.int IntKind.i64 (1 : Int)], [D.int IntKind.i64 (2 : Int)], [D.int IntKind.i64 (2 : Int)], [D.int IntKind.i64 (2 : Int)], [D.int IntKind.i64 (3 : Int)], [D.int IntKind.i64 (3 : Int)], [D.int IntKind.i64 (4 : Int)], [D.int IntKind.i64 (5 : Int)], [D.int IntKind.i64 (5 : Int)], [D.int IntKind.i64 (5 : Int)], [D.int IntKind.i64 (6 : Int)], [D.int IntKind.i64 (7 : Int)], [D.int IntKind.i64 (8 : Int)], [D.int IntKind.i64 (9 : Int)], [D.int IntKind.i64 (10 : Int)], [D.int IntKind.i64 (11 : Int)], [D.int IntKind.i64 (1 : Int)]] (Int.toNat (Int.tmod (bits BinOp.and IntKind.i64 x (255 : Int)) (18 : Int))))) (0 : Nat) D.nilp) == (1 : Int))
 (VC.need ((0 : Int) ≤ (16 : Int))
 (VC.need ((10 : Int) ≠ (0 : Int))
 (VC.need ((0 : Int) ≤ (14 : Int))
 (VC.ret (some (RR.agg [Rc.d (D.int IntKind.i64 (asInt (List.getD (List.drop (0 : Nat) (rowAt [[D.int IntKind.i64 (1 : Int)], [D.int IntKind.i64 (1 : Int)], [D.int IntKind.i64 (2 : Int)], [D.int IntKind.i64 (2 : Int)], [D.int IntKind.i64 (2 : Int)], [D.int IntKind.i64 (3 : Int)], [D.int IntKind.i64 (3 : Int)], [D.int IntKind.i64 (4 : Int)], [D.int IntKind.i64 (5 : Int)], [D.int IntKind.i64 (5 : Int)], [D.int IntKind.i64 (5 : Int)], [D.int IntKind.i64 (6 : Int)], [D.int IntKind.i64 (7 : Int)], [D.int IntKind.i64 (8 : Int)], [D.int IntKind.i64 (9 : Int)], [D.int IntKind.i64 (10 : Int)], [D.int IntKind.i64 (11 : Int)], [D.int IntKind.i64 (1 : Int)]] (Int.toNat (Int.tmod (bits BinOp.and IntKind.i64 x (255 : Int)) (18 : Int))))) (0 : Nat) D.nilp))), Rc.d (D.int IntKind.i64 (IntKind.wrap IntKind.i64 (Int.tmod (bits BinOp.and IntKind.i64 (Int.fdiv x (65536 : Int)) (255 : Int)) (10 : Int) + (1 : Int)))), Rc.d (D.int IntKind.i64 (bits BinOp.and IntKind.i64 (Int.fdiv x (16384 : Int)) (3 : Int))), Rc.d (D.bool !bits BinOp.and IntKind.i64 (Int.fdiv x (256 : Int)) (4 : Int) == (0 : Int)), Rc.d (D.int IntKind.i64 (bits BinOp.and IntKind.i64 (Int.fdiv x (256 : Int)) (3 : Int))), Rc.d (D.bool !bits BinOp.and IntKind.i64 (Int.fdiv x (2048 : Int)) (4 : Int) == (0 : Int)), Rc.d (D.int IntKind.i64 (bits BinOp.and IntKind.i64 (Int.fdiv x (2048 : Int)) (3 : Int))), Rc.d (D.str { data := #[] }), Rc.d (D.int IntKind.i64 (0 : Int))]))))))
 (VC.br (asInt (List.getD (List.drop (0 : Nat) (rowAt [[D.int IntKind.i64 (1 : Int)], [D.int IntKind.i64 (1 : Int)], [D.int IntKind.i64 (2 : Int)], [D.int IntKind.i64 (2 : Int)], [D.int IntKind.i64 (2 : Int)], [D.int IntKind.i64 (3 : Int)], [D.int IntKind.i64 (3 : Int)], [D.int IntKind.i64 (4 : Int)], [D.int IntKind.i64 (5 : Int)], [D.int IntKind.i64 (5 : Int)], [D.int IntKind.i64 (5 : Int)], [D.int IntKind.i64 (6 : Int)], [D.int IntKind.i64 (7 : Int)], [D.int IntKind.i64 (8 : Int)], [D.int IntKind.i64 (9 : Int)], [D.int IntKind.i64 (10 : Int)], [D.int IntKind.i64 (11 : Int)], [D.int IntKind.i64 (1 : Int)]] (Int.toNat (Int.tmod (bits BinOp.and IntKind.i64 x (255 : Int)) (18 : Int))))) (0 : Nat) D.nilp) == (2 : Int))
  (VC.need ((0 : Int) ≤ (14 : Int))
  (VC.ret (some (RR.agg [Rc.d (D.int IntKind.i64 (asInt (List.getD (List.drop (0 : Nat) (rowAt [[D.int IntKind.i64 (1 : Int)], [D.int IntKind.i64 (1 : Int)], [D.int IntKind.i64 (2 : Int)], [D.int IntKind.i64 (2 : Int)], [D.int IntKind.i64 (2 : Int)], [D.int IntKind.i64 (3 : Int)], [D.int IntKind.i64 (3 : Int)], [D.int IntKind.i64 (4 : Int)], [D.int IntKind.i64 (5 : Int)], [D.int IntKind.i64 (5 : Int)], [D.int IntKind.i64 (5 : Int)], [D.int IntKind.i64 (6 : Int)], [D.int IntKind.i64 (7 : Int)], [D.int IntKind.i64 (8 : Int)], [D.int IntKind.i64 (9 : Int)], [D.int IntKind.i64 (10 : Int)], [D.int IntKind.i64 (11 : Int)], [D.int IntKind.i64 (1 : Int)]] (Int.toNat (Int.tmod (bits BinOp.and IntKind.i64 x (255 : Int)) (18 : Int))))) (0 : Nat) D.nilp))), Rc.d (D.int IntKind.i64 (0 : Int)), Rc.d (D.int IntKind.i64 (bits BinOp.and IntKind.i64 (Int.fdiv x (16384 : Int)) (3 : Int))), Rc.d (D.bool !bits BinOp.and IntKind.i64 (Int.fdiv x (256 : Int)) (4 : Int) == (0 : Int)), Rc.d (D.int IntKind.i64 (bits BinOp.and IntKind.i64 (Int.fdiv x (256 : Int)) (3 : Int))), Rc.d (D.bool !bits BinOp.and IntKind.i64 (Int.fdiv x (2048 : Int)) (4 : Int) == (0 : Int)), Rc.d (D.int IntKind.i64 (bits BinOp.and IntKind.i64 (Int.fdiv x (2048 : Int)) (3 : Int))), Rc.d (D.str { data := #[] }), Rc.d (D.int IntKind.i64 (0 : Int))]))))
  (VC.br (asInt (List.getD (List.drop (0 : Nat) (rowAt [[D.int IntKind.i64 (1 : Int)], [D.int IntKind.i64 (1 : Int)], [D.int IntKind.i64 (2 : Int)], [D.int IntKind.i64 (2 : Int)], [D.int IntKind.i64 (2 : Int)], [D.int IntKind.i64 (3 : Int)], [D.int IntKind.i64 (3 : Int)], [D.int IntKind.i64 (4 : Int)], [D.int IntKind.i64 (5 : Int)], [D.int IntKind.i64 (5 : Int)], [D.int IntKind.i64 (5 : Int)], [D.int IntKind.i64 (6 : Int)], [D.int IntKind.i64 (7 : Int)], [D.int IntKind.i64 (8 : Int)], [D.int IntKind.i64 (9 : Int)], [D.int IntKind.i64 (10 : Int)], [D.int IntKind.i64 (11 : Int)], [D.int IntKind.i64 (1 : Int)]] (Int.toNat (Int.tmod (bits BinOp.and IntKind.i64 x (255 : Int)) (18 : Int))))) (0 : Nat) D.nilp) == (3 : Int))
   (VC.need ((0 : Int) ≤ (14 : Int))
   (VC.ret (some (RR.agg [Rc.d (D.int IntKind.i64 (asInt (List.getD (List.drop (0 : Nat) (rowAt [[D.int IntKind.i64 (1 : Int)], [D.int IntKind.i64 (1 : Int)], [D.int IntKind.i64 (2 : Int)], [D.int IntKind.i64 (2 : Int)], [D.int IntKind.i64 (2 : Int)], [D.int IntKind.i64 (3 : Int)], [D.int IntKind.i64 (3 : Int)], [D.int IntKind.i64 (4 : Int)], [D.int IntKind.i64 (5 : Int)], [D.int IntKind.i64 (5 : Int)], [D.int IntKind.i64 (5 : Int)], [D.int IntKind.i64 (6 : Int)], [D.int IntKind.i64 (7 : Int)], [D.int IntKind.i64 (8 : Int)], [D.int IntKind.i64 (9 : Int)], [D.int IntKind.i64 (10 : Int)], [D.int IntKind.i64 (11 : Int)], [D.int IntKind.i64 (1 : Int)]] (Int.toNat (Int.tmod (bits BinOp.and IntKind.i64 x (255 : Int)) (18 : Int))))) (0 : Nat) D.nilp))), Rc.d (D.int IntKind.i64 (0 : Int)), Rc.d (D.int IntKind.i64 (bits BinOp.and IntKind.i64 (Int.fdiv x (16384 : Int)) (3 : Int))), Rc.d (D.bool !bits BinOp.and IntKind.i64 (Int.fdiv x (256 : Int)) (4 : Int) == (0 : Int)), Rc.d (D.int IntKind.i64 (bits BinOp.and IntKind.i64 (Int.fdiv x (256 : Int)) (3 : Int))), Rc.d (D.bool !bits BinOp.and IntKind.i64 (Int.fdiv x (2048 : Int)) (4 : Int) == (0 : Int)), Rc.d (D.int IntKind.i64 (bits BinOp.and IntKind.i64 (Int.fdiv x (2048 : Int)) (3 : Int))), Rc.d (D.str { data := #[] }), Rc.d (D.int IntKind.i64 (0 : Int))]))))
   (VC.br (asInt (List.getD (List.drop (0 : Nat) (rowAt [[D.int IntKind.i64 (1 : Int)], [D.int IntKind.i64 (1 : Int)], [D.int IntKind.i64 (2 : Int)], [D.int IntKind.i64 (2 : Int)], [D.int IntKind.i64 (2 : Int)], [D.int IntKind.i64 (3 : Int)], [D.int IntKind.i64 (3 : Int)], [D.int IntKind.i64 (4 : Int)], [D.int IntKind.i64 (5 : Int)], [D.int IntKind.i64 (5 : Int)], [D.int IntKind.i64 (5 : Int)], [D.int IntKind.i64 (6 : Int)], [D.int IntKind.i64 (7 : Int)], [D.int IntKind.i64 (8 : Int)], [D.int IntKind.i64 (9 : Int)], [D.int IntKind.i64 (10 : Int)], [D.int IntKind.i64 (11 : Int)], [D.int IntKind.i64 (1 : Int)]] (Int.toNat (Int.tmod (bits BinOp.and IntKind.i64 x (255 : Int)) (18 : Int))))) (0 : Nat) D.nilp) == (4 : Int))
    (VC.need ((0 : Int) ≤ (14 : Int))
    (VC.ret (some (RR.agg [Rc.d (D.int IntKind.i64 (asInt (List.getD (List.drop (0 : Nat) (rowAt [[D.int IntKind.i64 (1 : Int)], [D.int IntKind.i64 (1 : Int)], [D.int IntKind.i64 (2 : Int)], [D.int IntKind.i64 (2 : Int)], [D.int IntKind.i64 (2 : Int)], [D.int IntKind.i64 (3 : Int)], [D.int IntKind.i64 (3 : Int)], [D.int IntKind.i64 (4 : Int)], [D.int IntKind.i64 (5 : Int)], [D.int IntKind.i64 (5 : Int)], [D.int IntKind.i64 (5 : Int)], [D.int IntKind.i64 (6 : Int)], [D.int IntKind.i64 (7 : Int)], [D.int IntKind.i64 (8 : Int)], [D.int IntKind.i64 (9 : Int)], [D.int IntKind.i64 (10 : Int)], [D.int IntKind.i64 (11 : Int)], [D.int IntKind.i64 (1 : Int)]] (Int.toNat (Int.tmod (bits BinOp.and IntKind.i64 x (255 : Int)) (18 : Int))))) (0 : Nat) D.nilp))), Rc.d (D.int IntKind.i64 (0 : Int)), Rc.d (D.int IntKind.i64 (bits BinOp.and IntKind.i64 (Int.fdiv x (16384 : Int)) (3 : Int))), Rc.d (D.bool !bits BinOp.and IntKind.i64 (Int.fdiv x (256 : Int)) (4 : Int) == (0 : Int)), Rc.d (D.int IntKind.i64 (bits BinOp.and IntKind.i64 (Int.fdiv x (256 : Int)) (3 : Int))), Rc.d (D.bool !bits BinOp.and IntKind.i64 (Int.fdiv x (2048 : Int)) (4 : Int) == (0 : Int)), Rc.d (D.int IntKind.i64 (bits BinOp.and IntKind.i64 (Int.fdiv x (2048 : Int)) (3 : Int))), Rc.d (D.str { data := #[] }), Rc.d (D.int IntKind.i64 (0 : Int))]))))
    (VC.br (asInt (List.getD (List.drop (0 : Nat) (rowAt [[D.int IntKind.i64 (1 : Int)], [D.int IntKind.i64 (1 : Int)], [D.int IntKind.i64 (2 : Int)], [D.int IntKind.i64 (2 : Int)], [D.int IntKind.i64 (2 : Int)], [D.int IntKind.i64 (3 : Int)], [D.int IntKind.i64 (3 : Int)], [D.int IntKind.i64 (4 : Int)], [D.int IntKind.i64 (5 : Int)], [D.int IntKind.i64 (5 : Int)], [D.int IntKind.i64 (5 : Int)], [D.int IntKind.i64 (6 : Int)], [D.int IntKind.i64 (7 : Int)], [D.int IntKind.i64 (8 : Int)], [D.int IntKind.i64 (9 : Int)], [D.int IntKind.i64 (10 : Int)], [D.int IntKind.i64 (11 : Int)], [D.int IntKind.i64 (1 : Int)]] (Int.toNat (Int.tmod (bits BinOp.and IntKind.i64 x (255 : Int)) (18 : Int))))) (0 : Nat) D.nilp) == (5 : Int))
     (VC.need ((0 : Int) ≤ (16 : Int))
     (VC.need ((0 : Int) ≤ bits BinOp.and IntKind.i64 (Int.fdiv x (65536 : Int)) (3 : Int) ∧ bits BinOp.and IntKind.i64 (Int.fdiv x (65536 : Int)) (3 : Int) < (4 : Int))
     (VC.need (Int.toNat (bits BinOp.and IntKind.i64 (Int.fdiv x (65536 : Int)) (3 : Int)) < (4 : Nat) ∧ List.length (rowAt [[D.int IntKind.i64 (9 : Int)], [D.int IntKind.i64 (10 : Int)], [D.int IntKind.i64 (3 : Int)], [D.int IntKind.i64 (2 : Int)]] (Int.toNat (bits BinOp.and IntKind.i64 (Int.fdiv x (65536 : Int)) (3 : Int)))) = (1 : Nat) ∧ okSh [Kd.int IntKind.i64] (List.drop (0 : Nat) (rowAt [[D.int IntKind.i64 (9 : Int)], [D.int IntKind.i64 (10 : Int)], [D.int IntKind.i64 (3 : Int)], [D.int IntKind.i64 (2 : Int)]] (Int.toNat (bits BinOp.and IntKind.i64 (Int.fdiv x (65536 : Int)) (3 : Int))))))
     (VC.need ((0 : Int) ≤ (18 : Int))
     (VC.need (IntKind.wrap IntKind.i64 (n + (1 : Int)) ≠ (0 : Int))
     (VC.ret (some (RR.agg [Rc.d (D.int IntKind.i64 (asInt (List.getD (List.drop (0 : Nat) (rowAt [[D.int IntKind.i64 (1 : Int)], [D.int IntKind.i64 (1 : Int)], [D.int IntKind.i64 (2 : Int)], [D.int IntKind.i64 (2 : Int)], [D.int IntKind.i64 (2 : Int)], [D.int IntKind.i64 (3 : Int)], [D.int IntKind.i64 (3 : Int)], [D.int IntKind.i64 (4 : Int)], [D.int IntKind.i64 (5 : Int)], [D.int IntKind.i64 (5 : Int)], [D.int IntKind.i64 (5 : Int)], [D.int IntKind.i64 (6 : Int)], [D.int IntKind.i64 (7 : Int)], [D.int IntKind.i64 (8 : Int)], [D.int IntKind.i64 (9 : Int)], [D.int IntKind.i64 (10 : Int)], [D.int IntKind.i64 (11 : Int)], [D.int IntKind.i64 (1 : Int)]] (Int.toNat (Int.tmod (bits BinOp.and IntKind.i64 x (255 : Int)) (18 : Int))))) (0 : Nat) D.nilp))), Rc.d (D.int IntKind.i64 (asInt (List.getD (List.drop (0 : Nat) (rowAt [[D.int IntKind.i64 (9 : Int)], [D.int IntKind.i64 (10 : Int)], [D.int IntKind.i64 (3 : Int)], [D.int IntKind.i64 (2 : Int)]] (Int.toNat (bits BinOp.and IntKind.i64 (Int.fdiv x (65536 : Int)) (3 : Int))))) (0 : Nat) D.nilp))), Rc.d (D.int IntKind.i64 (0 : Int)), Rc.d (D.bool !bits BinOp.and IntKind.i64 (Int.fdiv x (256 : Int)) (4 : Int) == (0 : Int)), Rc.d (D.int IntKind.i64 (bits BinOp.and IntKind.i64 (Int.fdiv x (256 : Int)) (3 : Int))), Rc.d (D.bool !bits BinOp.and IntKind.i64 (Int.fdiv x (2048 : Int)) (4 : Int) == (0 : Int)), Rc.d (D.int IntKind.i64 (bits BinOp.and IntKind.i64 (Int.fdiv x (2048 : Int)) (3 : Int))), Rc.d (D.str { data := #[] }), Rc.d (D.int IntKind.i64 (Int.tmod (bits BinOp.and IntKind.i64 (Int.fdiv x (262144 : Int)) (255 : Int)) (IntKind.wrap IntKind.i64 (n + (1 : Int)))))]))))))))
     (VC.br (asInt (List.getD (List.drop (0 : Nat) (rowAt [[D.int IntKind.i64 (1 : Int)], [D.int IntKind.i64 (1 : Int)], [D.int IntKind.i64 (2 : Int)], [D.int IntKind.i64 (2 : Int)], [D.int IntKind.i64 (2 : Int)], [D.int IntKind.i64 (3 : Int)], [D.int IntKind.i64 (3 : Int)], [D.int IntKind.i64 (4 : Int)], [D.int IntKind.i64 (5 : Int)], [D.int IntKind.i64 (5 : Int)], [D.int IntKind.i64 (5 : Int)], [D.int IntKind.i64 (6 : Int)], [D.int IntKind.i64 (7 : Int)], [D.int IntKind.i64 (8 : Int)], [D.int IntKind.i64 (9 : Int)], [D.int IntKind.i64 (10 : Int)], [D.int IntKind.i64 (11 : Int)], [D.int IntKind.i64 (1 : Int)]] (Int.toNat (Int.tmod (bits BinOp.and IntKind.i64 x (255 : Int)) (18 : Int))))) (0 : Nat) D.nilp) == (6 : Int))
      (VC.need ((0 : Int) ≤ (18 : Int))
      (VC.need (IntKind.wrap IntKind.i64 (n + (1 : Int)) ≠ (0 : Int))
      (VC.ret (some (RR.agg [Rc.d (D.int IntKind.i64 (asInt (List.getD (List.drop (0 : Nat) (rowAt [[D.int IntKind.i64 (1 : Int)], [D.int IntKind.i64 (1 : Int)], [D.int IntKind.i64 (2 : Int)], [D.int IntKind.i64 (2 : Int)], [D.int IntKind.i64 (2 : Int)], [D.int IntKind.i64 (3 : Int)], [D.int IntKind.i64 (3 : Int)], [D.int IntKind.i64 (4 : Int)], [D.int IntKind.i64 (5 : Int)], [D.int IntKind.i64 (5 : Int)], [D.int IntKind.i64 (5 : Int)], [D.int IntKind.i64 (6 : Int)], [D.int IntKind.i64 (7 : Int)], [D.int IntKind.i64 (8 : Int)], [D.int IntKind.i64 (9 : Int)], [D.int IntKind.i64 (10 : Int)], [D.int IntKind.i64 (11 : Int)], [D.int IntKind.i64 (1 : Int)]] (Int.toNat (Int.tmod (bits BinOp.and IntKind.i64 x (255 : Int)) (18 : Int))))) (0 : Nat) D.nilp))), Rc.d (D.int IntKind.i64 (0 : Int)), Rc.d (D.int IntKind.i64 (0 : Int)), Rc.d (D.bool false), Rc.d (D.int IntKind.i64 (0 : Int)), Rc.d (D.bool false), Rc.d (D.int IntKind.i64 (0 : Int)), Rc.d (D.str { data := #[] }), Rc.d (D.int IntKind.i64 (Int.tmod (bits BinOp.and IntKind.i64 (Int.fdiv x (262144 : Int)) (255 : Int)) (IntKind.wrap IntKind.i64 (n + (1 : Int)))))])))))
      (VC.br (asInt (List.getD (List.drop (0 : Nat) (rowAt [[D.int IntKind.i64 (1 : Int)], [D.int IntKind.i64 (1 : Int)], [D.int IntKind.i64 (2 : Int)], [D.int IntKind.i64 (2 : Int)], [D.int IntKind.i64 (2 : Int)], [D.int IntKind.i64 (3 : Int)], [D.int IntKind.i64 (3 : Int)], [D.int IntKind.i64 (4 : Int)], [D.int IntKind.i64 (5 : Int)], [D.int IntKind.i64 (5 : Int)], [D.int IntKind.i64 (5 : Int)], [D.int IntKind.i64 (6 : Int)], [D.int IntKind.i64 (7 : Int)], [D.int IntKind.i64 (8 : Int)], [D.int IntKind.i64 (9 : Int)], [D.int IntKind.i64 (10 : Int)], [D.int IntKind.i64 (11 : Int)], [D.int IntKind.i64 (1 : Int)]] (Int.toNat (Int.tmod (bits BinOp.and IntKind.i64 x (255 : Int)) (18 : Int))))) (0 : Nat) D.nilp) == (8 : Int))
       (VC.need ((0 : Int) ≤ (18 : Int))
       (VC.need (IntKind.wrap IntKind.i64 (n + (1 : Int)) ≠ (0 : Int))
       (VC.ret (some (RR.agg [Rc.d (D.int IntKind.i64 (asInt (List.getD (List.drop (0 : Nat) (rowAt [[D.int IntKind.i64 (1 : Int)], [D.int IntKind.i64 (1 : Int)], [D.int IntKind.i64 (2 : Int)], [D.int IntKind.i64 (2 : Int)], [D.int IntKind.i64 (2 : Int)], [D.int IntKind.i64 (3 : Int)], [D.int IntKind.i64 (3 : Int)], [D.int IntKind.i64 (4 : Int)], [D.int IntKind.i64 (5 : Int)], [D.int IntKind.i64 (5 : Int)], [D.int IntKind.i64 (5 : Int)], [D.int IntKind.i64 (6 : Int)], [D.int IntKind.i64 (7 : Int)], [D.int IntKind.i64 (8 : Int)], [D.int IntKind.i64 (9 : Int)], [D.int IntKind.i64 (10 : Int)], [D.int IntKind.i64 (11 : Int)], [D.int IntKind.i64 (1 : Int)]] (Int.toNat (Int.tmod (bits BinOp.and IntKind.i64 x (255 : Int)) (18 : Int))))) (0 : Nat) D.nilp))), Rc.d (D.int IntKind.i64 (0 : Int)), Rc.d (D.int IntKind.i64 (0 : Int)), Rc.d (D.bool false), Rc.d (D.int IntKind.i64 (0 : Int)), Rc.d (D.bool false), Rc.d (D.int IntKind.i64 (0 : Int)), Rc.d (D.str { data := #[] }), Rc.d (D.int IntKind.i64 (Int.tmod (bits BinOp.and IntKind.i64 (Int.fdiv x (262144 : Int)) (255 : Int)) (IntKind.wrap IntKind.i64 (n + (1 : Int)))))])))))
       (VC.br (asInt (List.getD (List.drop (0 : Nat) (rowAt [[D.int IntKind.i64 (1 : Int)], [D.int IntKind.i64 (1 : Int)], [D.int IntKind.i64 (2 : Int)], [D.int IntKind.i64 (2 : Int)], [D.int IntKind.i64 (2 : Int)], [D.int IntKind.i64 (3 : Int)], [D.int IntKind.i64 (3 : Int)], [D.int IntKind.i64 (4 : Int)], [D.int IntKind.i64 (5 : Int)], [D.int IntKind.i64 (5 : Int)], [D.int IntKind.i64 (5 : Int)], [D.int IntKind.i64 (6 : Int)], [D.int IntKind.i64 (7 : Int)], [D.int IntKind.i64 (8 : Int)], [D.int IntKind.i64 (9 : Int)], [D.int IntKind.i64 (10 : Int)], [D.int IntKind.i64 (11 : Int)], [D.int IntKind.i64 (1 : Int)]] (Int.toNat (Int.tmod (bits BinOp.and IntKind.i64 x (255 : Int)) (18 : Int))))) (0 : Nat) D.nilp) == (7 : Int))
        (VC.ret (some (RR.agg [Rc.d (D.int IntKind.i64 (asInt (List.getD (List.drop (0 : Nat) (rowAt [[D.int IntKind.i64 (1 : Int)], [D.int IntKind.i64 (1 : Int)], [D.int IntKind.i64 (2 : Int)], [D.int IntKind.i64 (2 : Int)], [D.int IntKind.i64 (2 : Int)], [D.int IntKind.i64 (3 : Int)], [D.int IntKind.i64 (3 : Int)], [D.int IntKind.i64 (4 : Int)], [D.int IntKind.i64 (5 : Int)], [D.int IntKind.i64 (5 : Int)], [D.int IntKind.i64 (5 : Int)], [D.int IntKind.i64 (6 : Int)], [D.int IntKind.i64 (7 : Int)], [D.int IntKind.i64 (8 : Int)], [D.int IntKind.i64 (9 : Int)], [D.int IntKind.i64 (10 : Int)], [D.int IntKind.i64 (11 : Int)], [D.int IntKind.i64 (1 : Int)]] (Int.toNat (Int.tmod (bits BinOp.and IntKind.i64 x (255 : Int)) (18 : Int))))) (0 : Nat) D.nilp))), Rc.d (D.int IntKind.i64 (0 : Int)), Rc.d (D.int IntKind.i64 (0 : Int)), Rc.d (D.bool !bits BinOp.and IntKind.i64 (Int.fdiv x (256 : Int)) (4 : Int) == (0 : Int)), Rc.d (D.int IntKind.i64 (bits BinOp.and IntKind.i64 (Int.fdiv x (256 : Int)) (3 : Int))), Rc.d (D.bool false), Rc.d (D.int IntKind.i64 (0 : Int)), Rc.d (D.str { data := #[] }), Rc.d (D.int IntKind.i64 (0 : Int))])))
        (VC.ret (some (RR.agg [Rc.d (D.int IntKind.i64 (asInt (List.getD (List.drop (0 : Nat) (rowAt [[D.int IntKind.i64 (1 : Int)], [D.int IntKind.i64 (1 : Int)], [D.int IntKind.i64 (2 : Int)], [D.int IntKind.i64 (2 : Int)], [D.int IntKind.i64 (2 : Int)], [D.int IntKind.i64 (3 : Int)], [D.int IntKind.i64 (3 : Int)], [D.int IntKind.i64 (4 : Int)], [D.int IntKind.i64 (5 : Int)], [D.int IntKind.i64 (5 : Int)], [D.int IntKind.i64 (5 : Int)], [D.int IntKind.i64 (6 : Int)], [D.int IntKind.i64 (7 : Int)], [D.int IntKind.i64 (8 : Int)], [D.int IntKind.i64 (9 : Int)], [D.int IntKind.i64 (10 : Int)], [D.int IntKind.i64 (11 : Int)], [D.int IntKind.i64 (1 : Int)]] (Int.toNat (Int.tmod (bits BinOp.and IntKind.i64 x (255 : Int)) (18 : Int))))) (0 : Nat) D.nilp))), Rc.d (D.int IntKind.i64 (0 : Int)), Rc.d (D.int IntKind.i64 (0 : Int)), Rc.d (D.bool false), Rc.d (D.int IntKind.i64 (0 : Int)), Rc.d (D.bool false), Rc.d (D.int IntKind.i64 (0 : Int)), Rc.d (D.str { data := #[] }), Rc.d (D.int IntKind.i64 (0 : Int))])))))))))))))))))) := by kernel_rfl
theorem x_lins (x n : Int) (h0 : 1 ≤ n ∧ n ≤ 1000) : ∃ r, (fun r => ∃ i : Ins, WFI n i ∧ r = .agg ((row i).map .d)) r ∧ ACalls Tryd.prog 17 [ai x, ai n] r := by
  refine acalls_some s_lins_sound (fn := Tryd.f17) (a := a_lins) (nargs := 2) (tbl := []) (by kernel_rfl) (by kernel_rfl) rfl (m := 400) ?_
  show VC.holds _ _ _ (a_lins.start s_lins 400 [ai x, ai n])
  rw [t_lins]
  try simp only [asRows_sl, asInt_int, asBool_bool, asStr_str, listOf_rowsOn, List.drop_zero, Prg.eta, Sta.eta, rowsOn_length, getD_drop, Nat.reduceAdd, rd_int, rd_PMem_name, rd_PMem_secret, rd_PMem_n, rd_PLabel_name, rd_PLabel_at_, rd_Ins_kind, rd_Ins_op, rd_Ins_d, rd_Ins_aR, rd_Ins_aN, rd_Ins_bR, rd_Ins_bN, rd_Ins_name, rd_Ins_target, rd_Ent_pc, rd_Ent_val, rd_Ent_addr, rd_Ent_fro, rd_Ent_next, rd_Ent_done, rd_Ent_known, rd_Ent_fault, rd_Place_reg, rd_Place_n, rd_Place_secret, rd_Obs_kind, rd_Obs_at_, rd_Dir_kind, rd_Dir_n]
  simp only [tmod255, and3, valM]
  rw [wrap_small (n + 1) (by omega) (by omega), wrap_small (Int.fdiv x 65536 % 256 % 10 + 1) (by omega) (by omega)]
  have hm : ∀ y : Int, 0 ≤ y % 256 % (n + 1) ∧ y % 256 % (n + 1) ≤ n := fun y => by
    have h1 := Int.emod_nonneg (y % 256) (show n + 1 ≠ 0 by omega)
    have h2 := Int.emod_lt_of_pos (y % 256) (show 0 < n + 1 by omega)
    omega
  have h1 := tabK (x % 256 % 18).toNat (by omega)
  have h2 := tabO (Int.fdiv x 65536 % 4).toNat (by omega)
  refine ⟨by decide, ⟨by omega, by omega⟩, ⟨by omega, h1.2.1, h1.2.2⟩, by decide, PreOk.mk trivial rfl, by decide, PreOk.mk trivial rfl, ?_⟩
  obtain ⟨h3, _⟩ := h1
  revert h3
  generalize asInt (List.getD (rowAt _ (x % 256 % 18).toNat) 0 D.nilp) = kd
  intro h3
  obtain ⟨h2a, h2⟩ := h2
  revert h2a
  generalize asInt (List.getD (rowAt _ (Int.fdiv x 65536 % 4).toNat) 0 D.nilp) = ko
  intro h2a
  have h5 := hm (Int.fdiv x 262144)
  repeat' first
    | refine br_not ?_
    | refine br_dec (fun _ => ?_) (fun _ => ?_)
    | refine br_beq (fun _ => ?_) (fun _ => ?_)
    | refine br_bne (fun _ => ?_) (fun _ => ?_)
    | refine br_holds (fun _ => ?_) (fun _ => ?_)
    | refine ⟨PreOk.mk ?_ rfl, ?_⟩
    | refine ⟨idx_ok _ _ _ rfl (by omega) (by omega), ?_⟩
    | refine ⟨okSh_ok _ _ _ (fun _ => rfl) (by omega) (by omega), ?_⟩
    | refine ⟨okSh_okD _ _ _ _ (fun _ => rfl) (by omega) (by omega), ?_⟩
    | refine ⟨aload_ok _ _ rfl (fun _ => rfl) (by omega) (by omega), ?_⟩
    | refine ⟨aload_okD _ _ _ rfl (fun _ => rfl) (by omega) (by omega), ?_⟩
    | refine ⟨astore_ok (by assumption) rfl (by omega) (by omega) (by decide), ?_⟩
    | refine ⟨app_ok (by assumption) rfl rfl (by simp only [List.length_cons, List.length_nil]; omega), ?_⟩
    | refine need_holds ?_ fun _ => ?_
    | refine all_holds fun y hy => ?_
    | refine ret_eq ?_
  all_goals try exact ⟨by omega, h2.1, h2.2⟩
  all_goals try omega
  all_goals
    refine ⟨⟨_, _, _, _, _, _, _, _, _⟩, ?_, rfl⟩
    exact ⟨by dsimp only; omega, by dsimp only; omega, by dsimp only; omega, by dsimp only; omega, by dsimp only; omega, by dsimp only; omega⟩
theorem insM_spec (x n : Int) (h : 1 ≤ n ∧ n ≤ 1000) : WFI n (insM x n) ∧ ACalls Tryd.prog 17 [ai x, ai n] (.agg ((row (insM x n)).map .d)) := by
  obtain ⟨r, ⟨i, h1, rfl⟩, h2⟩ := x_lins x n h
  exact pick_spec (Q := fun i => WFI n i ∧ ACalls Tryd.prog 17 [ai x, ai n] (.agg ((row i).map .d))) ⟨i, h1, h2⟩
theorem c_lins_good : c_lins.fe.Good Tryd.prog := FT.good c_lins ⟨Tryd.f17, by kernel_rfl, by decide +kernel, by kernel_rfl⟩ (fun _ => rfl) fun x hx => (insM_spec x.1 x.2 hx).2
def digS (n : Int) : ByteArray := if n = 0 then ⟨#[48]⟩ else if n = 1 then ⟨#[49]⟩ else if n = 2 then ⟨#[50]⟩ else if n = 3 then ⟨#[51]⟩ else if n = 4 then ⟨#[52]⟩ else if n = 5 then ⟨#[53]⟩ else if n = 6 then ⟨#[54]⟩ else if n = 7 then ⟨#[55]⟩ else if n = 8 then ⟨#[56]⟩ else ⟨#[57]⟩
def ext0 : FuncId → List A → Option RR := fun _ _ => none
theorem ext0_sound : ∀ g xs r, ext0 g xs = some r → ACalls Tryd.prog g xs r ∧ Enters Tryd.prog g := fun _ _ _ h => nomatch h
theorem dig_calls (n : Int) (h : 0 ≤ n ∧ n ≤ 9) : ACalls Tryd.prog 16 [ai n] (.c (.d (.str (digS n)))) := by
  have : n = 0 ∨ n = 1 ∨ n = 2 ∨ n = 3 ∨ n = 4 ∨ n = 5 ∨ n = 6 ∨ n = 7 ∨ n = 8 ∨ n = 9 := by omega
  rcases this with h | h | h | h | h | h | h | h | h | h <;> (subst h; exact (axN_sound ext0_sound (n := 20) 2 (by kernel_rfl)).1)
def c_dig1 : FT Int := ⟨16, fun n => [ai n], rdI1, fun n => 0 ≤ n ∧ n ≤ 9, fun n => .c (.d (.str (digS n))), false, fun _ => rfl⟩
theorem c_dig1_good : c_dig1.fe.Good Tryd.prog := FT.good c_dig1 ⟨Tryd.f16, by kernel_rfl, by decide +kernel, by kernel_rfl⟩ (fun _ => rfl) fun n hn => dig_calls n hn
end Go.Proofs.YtmmlolampgnamaaDoor.Ax
end

section
/- Programs of numbers: augurylaw6.Make. -/
namespace Go.Proofs.YtmmlolampgnamaaDoor.Ax
open Go.RowKit
set_option linter.unusedVariables false
set_option linter.unusedSimpArgs false
noncomputable def a_make : FnA := (fnA Tryd.prog Tryd.f6 1 [(5, [2, 3, 4, 5, 6, 7]), (21, [2, 3, 4, 8, 9, 3000256007000900007003, 3000256008000900008002, 3000256009000900009009]), (25, [2, 3, 4, 8, 10, 3000256007000900007003, 3000256008000900008002, 3000256009000900009009])]).getD ⟨0, .skip, [], []⟩
noncomputable def s_make : Sp := spT [c_mkk.fe, c_lins.fe, c_dig1.fe]
theorem s_make_sound : s_make.sound Tryd.prog := spT_sound fun e he => by
  simp only [List.mem_cons, List.not_mem_nil, or_false] at he
  rcases he with rfl | rfl | rfl
  · exact c_mkk_good
  · exact c_lins_good
  · exact c_dig1_good
def Z_mk : Nat × Blk := (128, bc [.d (.int .i64 0), .d (.int .i64 0), .d (.int .i64 0), .d (.int .i64 0), .d (.int .i64 0), .d (.int .i64 0), .d (.int .i64 0), .nil, .nil, .nil])
def F_mk0 (l : List Int) (w win r0 r1 r2 r3 pub sec i : Int) : St := ⟨mkS 171 [(2, vp 128), (3, .c (.d (.fn 15 [.rptr [.sl (rowsOn l)]]))), (4, vp 256), (5, vi pub), (6, vi sec), (7, vi i)],
  [Z_mk, (256, bc [.d (.int .i64 w), .d (.int .i64 win), .d (.int .i64 6), .d (.int .i64 r0), .d (.int .i64 r1), .d (.int .i64 r2), .d (.int .i64 r3), .nil, .nil, .nil])]⟩
def B_mk (w win r0 r1 r2 r3 : Int) (M L I : List (List D)) (nm nl ni : Nat) : List (Nat × Blk) := [Z_mk, (256, bc [.d (.int .i64 w), .d (.int .i64 win), .d (.int .i64 6), .d (.int .i64 r0), .d (.int .i64 r1), .d (.int .i64 r2), .d (.int .i64 r3), .own 900007 1 nm, .own 900008 1 nl, .own 900009 1 ni]), (900007, ba 3 M), (900008, ba 2 L), (900009, ba 9 I)]
def F_mk1 (l : List Int) (w win r0 r1 r2 r3 : Int) (M L I : List (List D)) (nm nl ni : Nat) (n i : Int) : St := ⟨mkS 171 [(2, vp 128), (3, .c (.d (.fn 15 [.rptr [.sl (rowsOn l)]]))), (4, vp 256), (8, vi n), (9, vi i)], B_mk w win r0 r1 r2 r3 M L I nm nl ni⟩
def F_mk2 (l : List Int) (w win r0 r1 r2 r3 : Int) (M L I : List (List D)) (nm nl ni : Nat) (n i : Int) : St := ⟨mkS 171 [(2, vp 128), (3, .c (.d (.fn 15 [.rptr [.sl (rowsOn l)]]))), (4, vp 256), (8, vi n), (10, vi i)], B_mk w win r0 r1 r2 r3 M L I nm nl ni⟩
set_option maxRecDepth 100000 in
theorem t_make (l : List Int) : a_make.start s_make 400 [al l] =
(VC.need (PreOk c_mkk (l, (0 : Int)) [A.c (D.int IntKind.i64 (0 : Int)), A.c (D.rptr [D.sl (rowsOn l)])])
(VC.need (PreOk c_mkk (l, (0 : Int)) [A.c (D.int IntKind.i64 (0 : Int)), A.c (D.rptr [D.sl (rowsOn l)])])
(VC.need ((0 : Int) ≤ (1 : Int))
(VC.need ((3 : Int) ≠ (0 : Int))
(FnA.at_ a_make 0 (F_mk0 l (IntKind.wrap IntKind.i64 (bits BinOp.and IntKind.i64 (kS (listOf Int (rowsOn l)) (0 : Int)) (1 : Int) + (1 : Int))) (IntKind.wrap IntKind.i64 (Int.tmod (bits BinOp.and IntKind.i64 (Int.fdiv (kS (listOf Int (rowsOn l)) (0 : Int)) (2 : Int)) (255 : Int)) (3 : Int) + (1 : Int))) (0 : Int) (0 : Int) (0 : Int) (0 : Int) (0 : Int) (0 : Int) (0 : Int))))))) := by kernel_rfl
set_option maxRecDepth 100000 in
theorem t_mk00 (l : List Int) (w win pub sec : Int) : a_make.round s_make 400 0 (F_mk0 l w win 0 0 0 0 pub sec 0) =
(VC.need (PreOk c_mkk (l, (1 : Int)) [A.c (D.int IntKind.i64 (1 : Int)), A.c (D.rptr [D.sl (rowsOn l)])])
(VC.need ((0 : Int) ≤ (0 : Int))
(VC.need ((0 : Int) ≤ bits BinOp.and IntKind.i64 (Int.fdiv (kS (listOf Int (rowsOn l)) (1 : Int)) (1 : Int)) (3 : Int) ∧ bits BinOp.and IntKind.i64 (Int.fdiv (kS (listOf Int (rowsOn l)) (1 : Int)) (1 : Int)) (3 : Int) < (4 : Int))
(VC.need (Int.toNat (bits BinOp.and IntKind.i64 (Int.fdiv (kS (listOf Int (rowsOn l)) (1 : Int)) (1 : Int)) (3 : Int)) < (4 : Nat) ∧ List.length (rowAt [[D.int IntKind.i64 (0 : Int)], [D.int IntKind.i64 (0 : Int)], [D.int IntKind.i64 (1 : Int)], [D.int IntKind.i64 (2 : Int)]] (Int.toNat (bits BinOp.and IntKind.i64 (Int.fdiv (kS (listOf Int (rowsOn l)) (1 : Int)) (1 : Int)) (3 : Int)))) = (1 : Nat) ∧ okSh [Kd.int IntKind.i64] (List.drop (0 : Nat) (rowAt [[D.int IntKind.i64 (0 : Int)], [D.int IntKind.i64 (0 : Int)], [D.int IntKind.i64 (1 : Int)], [D.int IntKind.i64 (2 : Int)]] (Int.toNat (bits BinOp.and IntKind.i64 (Int.fdiv (kS (listOf Int (rowsOn l)) (1 : Int)) (1 : Int)) (3 : Int))))))
(VC.br (asInt (List.getD (List.drop (0 : Nat) (rowAt [[D.int IntKind.i64 (0 : Int)], [D.int IntKind.i64 (0 : Int)], [D.int IntKind.i64 (1 : Int)], [D.int IntKind.i64 (2 : Int)]] (Int.toNat (bits BinOp.and IntKind.i64 (Int.fdiv (kS (listOf Int (rowsOn l)) (1 : Int)) (1 : Int)) (3 : Int))))) (0 : Nat) D.nilp) == (1 : Int))
 (VC.br (decide (IntKind.wrap IntKind.i64 (pub + w) ≤ (2 : Int)))
  (FnA.at_ a_make 0 (F_mk0 l w win (asInt (List.getD (List.drop (0 : Nat) (rowAt [[D.int IntKind.i64 (0 : Int)], [D.int IntKind.i64 (0 : Int)], [D.int IntKind.i64 (1 : Int)], [D.int IntKind.i64 (2 : Int)]] (Int.toNat (bits BinOp.and IntKind.i64 (Int.fdiv (kS (listOf Int (rowsOn l)) (1 : Int)) (1 : Int)) (3 : Int))))) (0 : Nat) D.nilp)) (0 : Int) (0 : Int) (0 : Int) (IntKind.wrap IntKind.i64 (pub + w)) sec (1 : Int)))
  (VC.br (asInt (List.getD (List.drop (0 : Nat) (rowAt [[D.int IntKind.i64 (0 : Int)], [D.int IntKind.i64 (0 : Int)], [D.int IntKind.i64 (1 : Int)], [D.int IntKind.i64 (2 : Int)]] (Int.toNat (bits BinOp.and IntKind.i64 (Int.fdiv (kS (listOf Int (rowsOn l)) (1 : Int)) (1 : Int)) (3 : Int))))) (0 : Nat) D.nilp) == (2 : Int))
   (VC.br (decide (IntKind.wrap IntKind.i64 (sec + w) ≤ (2 : Int)))
    (FnA.at_ a_make 0 (F_mk0 l w win (asInt (List.getD (List.drop (0 : Nat) (rowAt [[D.int IntKind.i64 (0 : Int)], [D.int IntKind.i64 (0 : Int)], [D.int IntKind.i64 (1 : Int)], [D.int IntKind.i64 (2 : Int)]] (Int.toNat (bits BinOp.and IntKind.i64 (Int.fdiv (kS (listOf Int (rowsOn l)) (1 : Int)) (1 : Int)) (3 : Int))))) (0 : Nat) D.nilp)) (0 : Int) (0 : Int) (0 : Int) pub (IntKind.wrap IntKind.i64 (sec + w)) (1 : Int)))
    (FnA.at_ a_make 0 (F_mk0 l w win (0 : Int) (0 : Int) (0 : Int) (0 : Int) pub sec (1 : Int))))
   (FnA.at_ a_make 0 (F_mk0 l w win (0 : Int) (0 : Int) (0 : Int) (0 : Int) pub sec (1 : Int)))))
 (VC.br (asInt (List.getD (List.drop (0 : Nat) (rowAt [[D.int IntKind.i64 (0 : Int)], [D.int IntKind.i64 (0 : Int)], [D.int IntKind.i64 (1 : Int)], [D.int IntKind.i64 (2 : Int)]] (Int.toNat (bits BinOp.and IntKind.i64 (Int.fdiv (kS (listOf Int (rowsOn l)) (1 : Int)) (1 : Int)) (3 : Int))))) (0 : Nat) D.nilp) == (2 : Int))
  (VC.br (decide (IntKind.wrap IntKind.i64 (sec + w) ≤ (2 : Int)))
   (FnA.at_ a_make 0 (F_mk0 l w win (asInt (List.getD (List.drop (0 : Nat) (rowAt [[D.int IntKind.i64 (0 : Int)], [D.int IntKind.i64 (0 : Int)], [D.int IntKind.i64 (1 : Int)], [D.int IntKind.i64 (2 : Int)]] (Int.toNat (bits BinOp.and IntKind.i64 (Int.fdiv (kS (listOf Int (rowsOn l)) (1 : Int)) (1 : Int)) (3 : Int))))) (0 : Nat) D.nilp)) (0 : Int) (0 : Int) (0 : Int) pub (IntKind.wrap IntKind.i64 (sec + w)) (1 : Int)))
   (FnA.at_ a_make 0 (F_mk0 l w win (0 : Int) (0 : Int) (0 : Int) (0 : Int) pub sec (1 : Int))))
  (FnA.at_ a_make 0 (F_mk0 l w win (0 : Int) (0 : Int) (0 : Int) (0 : Int) pub sec (1 : Int))))))))) := by kernel_rfl
set_option maxRecDepth 100000 in
theorem t_mk01 (l : List Int) (w win r0 pub sec : Int) : a_make.round s_make 400 0 (F_mk0 l w win r0 0 0 0 pub sec 1) =
(VC.need (PreOk c_mkk (l, (1 : Int)) [A.c (D.int IntKind.i64 (1 : Int)), A.c (D.rptr [D.sl (rowsOn l)])])
(VC.need ((0 : Int) ≤ (2 : Int))
(VC.need ((0 : Int) ≤ bits BinOp.and IntKind.i64 (Int.fdiv (kS (listOf Int (rowsOn l)) (1 : Int)) (4 : Int)) (3 : Int) ∧ bits BinOp.and IntKind.i64 (Int.fdiv (kS (listOf Int (rowsOn l)) (1 : Int)) (4 : Int)) (3 : Int) < (4 : Int))
(VC.need (Int.toNat (bits BinOp.and IntKind.i64 (Int.fdiv (kS (listOf Int (rowsOn l)) (1 : Int)) (4 : Int)) (3 : Int)) < (4 : Nat) ∧ List.length (rowAt [[D.int IntKind.i64 (0 : Int)], [D.int IntKind.i64 (0 : Int)], [D.int IntKind.i64 (1 : Int)], [D.int IntKind.i64 (2 : Int)]] (Int.toNat (bits BinOp.and IntKind.i64 (Int.fdiv (kS (listOf Int (rowsOn l)) (1 : Int)) (4 : Int)) (3 : Int)))) = (1 : Nat) ∧ okSh [Kd.int IntKind.i64] (List.drop (0 : Nat) (rowAt [[D.int IntKind.i64 (0 : Int)], [D.int IntKind.i64 (0 : Int)], [D.int IntKind.i64 (1 : Int)], [D.int IntKind.i64 (2 : Int)]] (Int.toNat (bits BinOp.and IntKind.i64 (Int.fdiv (kS (listOf Int (rowsOn l)) (1 : Int)) (4 : Int)) (3 : Int))))))
(VC.br (asInt (List.getD (List.drop (0 : Nat) (rowAt [[D.int IntKind.i64 (0 : Int)], [D.int IntKind.i64 (0 : Int)], [D.int IntKind.i64 (1 : Int)], [D.int IntKind.i64 (2 : Int)]] (Int.toNat (bits BinOp.and IntKind.i64 (Int.fdiv (kS (listOf Int (rowsOn l)) (1 : Int)) (4 : Int)) (3 : Int))))) (0 : Nat) D.nilp) == (1 : Int))
 (VC.br (decide (IntKind.wrap IntKind.i64 (pub + w) ≤ (2 : Int)))
  (FnA.at_ a_make 0 (F_mk0 l w win r0 (asInt (List.getD (List.drop (0 : Nat) (rowAt [[D.int IntKind.i64 (0 : Int)], [D.int IntKind.i64 (0 : Int)], [D.int IntKind.i64 (1 : Int)], [D.int IntKind.i64 (2 : Int)]] (Int.toNat (bits BinOp.and IntKind.i64 (Int.fdiv (kS (listOf Int (rowsOn l)) (1 : Int)) (4 : Int)) (3 : Int))))) (0 : Nat) D.nilp)) (0 : Int) (0 : Int) (IntKind.wrap IntKind.i64 (pub + w)) sec (2 : Int)))
  (VC.br (asInt (List.getD (List.drop (0 : Nat) (rowAt [[D.int IntKind.i64 (0 : Int)], [D.int IntKind.i64 (0 : Int)], [D.int IntKind.i64 (1 : Int)], [D.int IntKind.i64 (2 : Int)]] (Int.toNat (bits BinOp.and IntKind.i64 (Int.fdiv (kS (listOf Int (rowsOn l)) (1 : Int)) (4 : Int)) (3 : Int))))) (0 : Nat) D.nilp) == (2 : Int))
   (VC.br (decide (IntKind.wrap IntKind.i64 (sec + w) ≤ (2 : Int)))
    (FnA.at_ a_make 0 (F_mk0 l w win r0 (asInt (List.getD (List.drop (0 : Nat) (rowAt [[D.int IntKind.i64 (0 : Int)], [D.int IntKind.i64 (0 : Int)], [D.int IntKind.i64 (1 : Int)], [D.int IntKind.i64 (2 : Int)]] (Int.toNat (bits BinOp.and IntKind.i64 (Int.fdiv (kS (listOf Int (rowsOn l)) (1 : Int)) (4 : Int)) (3 : Int))))) (0 : Nat) D.nilp)) (0 : Int) (0 : Int) pub (IntKind.wrap IntKind.i64 (sec + w)) (2 : Int)))
    (FnA.at_ a_make 0 (F_mk0 l w win r0 (0 : Int) (0 : Int) (0 : Int) pub sec (2 : Int))))
   (FnA.at_ a_make 0 (F_mk0 l w win r0 (0 : Int) (0 : Int) (0 : Int) pub sec (2 : Int)))))
 (VC.br (asInt (List.getD (List.drop (0 : Nat) (rowAt [[D.int IntKind.i64 (0 : Int)], [D.int IntKind.i64 (0 : Int)], [D.int IntKind.i64 (1 : Int)], [D.int IntKind.i64 (2 : Int)]] (Int.toNat (bits BinOp.and IntKind.i64 (Int.fdiv (kS (listOf Int (rowsOn l)) (1 : Int)) (4 : Int)) (3 : Int))))) (0 : Nat) D.nilp) == (2 : Int))
  (VC.br (decide (IntKind.wrap IntKind.i64 (sec + w) ≤ (2 : Int)))
   (FnA.at_ a_make 0 (F_mk0 l w win r0 (asInt (List.getD (List.drop (0 : Nat) (rowAt [[D.int IntKind.i64 (0 : Int)], [D.int IntKind.i64 (0 : Int)], [D.int IntKind.i64 (1 : Int)], [D.int IntKind.i64 (2 : Int)]] (Int.toNat (bits BinOp.and IntKind.i64 (Int.fdiv (kS (listOf Int (rowsOn l)) (1 : Int)) (4 : Int)) (3 : Int))))) (0 : Nat) D.nilp)) (0 : Int) (0 : Int) pub (IntKind.wrap IntKind.i64 (sec + w)) (2 : Int)))
   (FnA.at_ a_make 0 (F_mk0 l w win r0 (0 : Int) (0 : Int) (0 : Int) pub sec (2 : Int))))
  (FnA.at_ a_make 0 (F_mk0 l w win r0 (0 : Int) (0 : Int) (0 : Int) pub sec (2 : Int))))))))) := by kernel_rfl
set_option maxRecDepth 100000 in
theorem t_mk02 (l : List Int) (w win r0 r1 pub sec : Int) : a_make.round s_make 400 0 (F_mk0 l w win r0 r1 0 0 pub sec 2) =
(VC.need (PreOk c_mkk (l, (1 : Int)) [A.c (D.int IntKind.i64 (1 : Int)), A.c (D.rptr [D.sl (rowsOn l)])])
(VC.need ((0 : Int) ≤ (4 : Int))
(VC.need ((0 : Int) ≤ bits BinOp.and IntKind.i64 (Int.fdiv (kS (listOf Int (rowsOn l)) (1 : Int)) (16 : Int)) (3 : Int) ∧ bits BinOp.and IntKind.i64 (Int.fdiv (kS (listOf Int (rowsOn l)) (1 : Int)) (16 : Int)) (3 : Int) < (4 : Int))
(VC.need (Int.toNat (bits BinOp.and IntKind.i64 (Int.fdiv (kS (listOf Int (rowsOn l)) (1 : Int)) (16 : Int)) (3 : Int)) < (4 : Nat) ∧ List.length (rowAt [[D.int IntKind.i64 (0 : Int)], [D.int IntKind.i64 (0 : Int)], [D.int IntKind.i64 (1 : Int)], [D.int IntKind.i64 (2 : Int)]] (Int.toNat (bits BinOp.and IntKind.i64 (Int.fdiv (kS (listOf Int (rowsOn l)) (1 : Int)) (16 : Int)) (3 : Int)))) = (1 : Nat) ∧ okSh [Kd.int IntKind.i64] (List.drop (0 : Nat) (rowAt [[D.int IntKind.i64 (0 : Int)], [D.int IntKind.i64 (0 : Int)], [D.int IntKind.i64 (1 : Int)], [D.int IntKind.i64 (2 : Int)]] (Int.toNat (bits BinOp.and IntKind.i64 (Int.fdiv (kS (listOf Int (rowsOn l)) (1 : Int)) (16 : Int)) (3 : Int))))))
(VC.br (asInt (List.getD (List.drop (0 : Nat) (rowAt [[D.int IntKind.i64 (0 : Int)], [D.int IntKind.i64 (0 : Int)], [D.int IntKind.i64 (1 : Int)], [D.int IntKind.i64 (2 : Int)]] (Int.toNat (bits BinOp.and IntKind.i64 (Int.fdiv (kS (listOf Int (rowsOn l)) (1 : Int)) (16 : Int)) (3 : Int))))) (0 : Nat) D.nilp) == (1 : Int))
 (VC.br (decide (IntKind.wrap IntKind.i64 (pub + w) ≤ (2 : Int)))
  (FnA.at_ a_make 0 (F_mk0 l w win r0 r1 (asInt (List.getD (List.drop (0 : Nat) (rowAt [[D.int IntKind.i64 (0 : Int)], [D.int IntKind.i64 (0 : Int)], [D.int IntKind.i64 (1 : Int)], [D.int IntKind.i64 (2 : Int)]] (Int.toNat (bits BinOp.and IntKind.i64 (Int.fdiv (kS (listOf Int (rowsOn l)) (1 : Int)) (16 : Int)) (3 : Int))))) (0 : Nat) D.nilp)) (0 : Int) (IntKind.wrap IntKind.i64 (pub + w)) sec (3 : Int)))
  (VC.br (asInt (List.getD (List.drop (0 : Nat) (rowAt [[D.int IntKind.i64 (0 : Int)], [D.int IntKind.i64 (0 : Int)], [D.int IntKind.i64 (1 : Int)], [D.int IntKind.i64 (2 : Int)]] (Int.toNat (bits BinOp.and IntKind.i64 (Int.fdiv (kS (listOf Int (rowsOn l)) (1 : Int)) (16 : Int)) (3 : Int))))) (0 : Nat) D.nilp) == (2 : Int))
   (VC.br (decide (IntKind.wrap IntKind.i64 (sec + w) ≤ (2 : Int)))
    (FnA.at_ a_make 0 (F_mk0 l w win r0 r1 (asInt (List.getD (List.drop (0 : Nat) (rowAt [[D.int IntKind.i64 (0 : Int)], [D.int IntKind.i64 (0 : Int)], [D.int IntKind.i64 (1 : Int)], [D.int IntKind.i64 (2 : Int)]] (Int.toNat (bits BinOp.and IntKind.i64 (Int.fdiv (kS (listOf Int (rowsOn l)) (1 : Int)) (16 : Int)) (3 : Int))))) (0 : Nat) D.nilp)) (0 : Int) pub (IntKind.wrap IntKind.i64 (sec + w)) (3 : Int)))
    (FnA.at_ a_make 0 (F_mk0 l w win r0 r1 (0 : Int) (0 : Int) pub sec (3 : Int))))
   (FnA.at_ a_make 0 (F_mk0 l w win r0 r1 (0 : Int) (0 : Int) pub sec (3 : Int)))))
 (VC.br (asInt (List.getD (List.drop (0 : Nat) (rowAt [[D.int IntKind.i64 (0 : Int)], [D.int IntKind.i64 (0 : Int)], [D.int IntKind.i64 (1 : Int)], [D.int IntKind.i64 (2 : Int)]] (Int.toNat (bits BinOp.and IntKind.i64 (Int.fdiv (kS (listOf Int (rowsOn l)) (1 : Int)) (16 : Int)) (3 : Int))))) (0 : Nat) D.nilp) == (2 : Int))
  (VC.br (decide (IntKind.wrap IntKind.i64 (sec + w) ≤ (2 : Int)))
   (FnA.at_ a_make 0 (F_mk0 l w win r0 r1 (asInt (List.getD (List.drop (0 : Nat) (rowAt [[D.int IntKind.i64 (0 : Int)], [D.int IntKind.i64 (0 : Int)], [D.int IntKind.i64 (1 : Int)], [D.int IntKind.i64 (2 : Int)]] (Int.toNat (bits BinOp.and IntKind.i64 (Int.fdiv (kS (listOf Int (rowsOn l)) (1 : Int)) (16 : Int)) (3 : Int))))) (0 : Nat) D.nilp)) (0 : Int) pub (IntKind.wrap IntKind.i64 (sec + w)) (3 : Int)))
   (FnA.at_ a_make 0 (F_mk0 l w win r0 r1 (0 : Int) (0 : Int) pub sec (3 : Int))))
  (FnA.at_ a_make 0 (F_mk0 l w win r0 r1 (0 : Int) (0 : Int) pub sec (3 : Int))))))))) := by kernel_rfl
set_option maxRecDepth 100000 in
theorem t_mk03 (l : List Int) (w win r0 r1 r2 pub sec : Int) : a_make.round s_make 400 0 (F_mk0 l w win r0 r1 r2 0 pub sec 3) =
(VC.need (PreOk c_mkk (l, (1 : Int)) [A.c (D.int IntKind.i64 (1 : Int)), A.c (D.rptr [D.sl (rowsOn l)])])
(VC.need ((0 : Int) ≤ (6 : Int))
(VC.need ((0 : Int) ≤ bits BinOp.and IntKind.i64 (Int.fdiv (kS (listOf Int (rowsOn l)) (1 : Int)) (64 : Int)) (3 : Int) ∧ bits BinOp.and IntKind.i64 (Int.fdiv (kS (listOf Int (rowsOn l)) (1 : Int)) (64 : Int)) (3 : Int) < (4 : Int))
(VC.need (Int.toNat (bits BinOp.and IntKind.i64 (Int.fdiv (kS (listOf Int (rowsOn l)) (1 : Int)) (64 : Int)) (3 : Int)) < (4 : Nat) ∧ List.length (rowAt [[D.int IntKind.i64 (0 : Int)], [D.int IntKind.i64 (0 : Int)], [D.int IntKind.i64 (1 : Int)], [D.int IntKind.i64 (2 : Int)]] (Int.toNat (bits BinOp.and IntKind.i64 (Int.fdiv (kS (listOf Int (rowsOn l)) (1 : Int)) (64 : Int)) (3 : Int)))) = (1 : Nat) ∧ okSh [Kd.int IntKind.i64] (List.drop (0 : Nat) (rowAt [[D.int IntKind.i64 (0 : Int)], [D.int IntKind.i64 (0 : Int)], [D.int IntKind.i64 (1 : Int)], [D.int IntKind.i64 (2 : Int)]] (Int.toNat (bits BinOp.and IntKind.i64 (Int.fdiv (kS (listOf Int (rowsOn l)) (1 : Int)) (64 : Int)) (3 : Int))))))
(VC.br (asInt (List.getD (List.drop (0 : Nat) (rowAt [[D.int IntKind.i64 (0 : Int)], [D.int IntKind.i64 (0 : Int)], [D.int IntKind.i64 (1 : Int)], [D.int IntKind.i64 (2 : Int)]] (Int.toNat (bits BinOp.and IntKind.i64 (Int.fdiv (kS (listOf Int (rowsOn l)) (1 : Int)) (64 : Int)) (3 : Int))))) (0 : Nat) D.nilp) == (1 : Int))
 (VC.br (decide (IntKind.wrap IntKind.i64 (pub + w) ≤ (2 : Int)))
  (FnA.at_ a_make 0 (F_mk0 l w win r0 r1 r2 (asInt (List.getD (List.drop (0 : Nat) (rowAt [[D.int IntKind.i64 (0 : Int)], [D.int IntKind.i64 (0 : Int)], [D.int IntKind.i64 (1 : Int)], [D.int IntKind.i64 (2 : Int)]] (Int.toNat (bits BinOp.and IntKind.i64 (Int.fdiv (kS (listOf Int (rowsOn l)) (1 : Int)) (64 : Int)) (3 : Int))))) (0 : Nat) D.nilp)) (IntKind.wrap IntKind.i64 (pub + w)) sec (4 : Int)))
  (VC.br (asInt (List.getD (List.drop (0 : Nat) (rowAt [[D.int IntKind.i64 (0 : Int)], [D.int IntKind.i64 (0 : Int)], [D.int IntKind.i64 (1 : Int)], [D.int IntKind.i64 (2 : Int)]] (Int.toNat (bits BinOp.and IntKind.i64 (Int.fdiv (kS (listOf Int (rowsOn l)) (1 : Int)) (64 : Int)) (3 : Int))))) (0 : Nat) D.nilp) == (2 : Int))
   (VC.br (decide (IntKind.wrap IntKind.i64 (sec + w) ≤ (2 : Int)))
    (FnA.at_ a_make 0 (F_mk0 l w win r0 r1 r2 (asInt (List.getD (List.drop (0 : Nat) (rowAt [[D.int IntKind.i64 (0 : Int)], [D.int IntKind.i64 (0 : Int)], [D.int IntKind.i64 (1 : Int)], [D.int IntKind.i64 (2 : Int)]] (Int.toNat (bits BinOp.and IntKind.i64 (Int.fdiv (kS (listOf Int (rowsOn l)) (1 : Int)) (64 : Int)) (3 : Int))))) (0 : Nat) D.nilp)) pub (IntKind.wrap IntKind.i64 (sec + w)) (4 : Int)))
    (FnA.at_ a_make 0 (F_mk0 l w win r0 r1 r2 (0 : Int) pub sec (4 : Int))))
   (FnA.at_ a_make 0 (F_mk0 l w win r0 r1 r2 (0 : Int) pub sec (4 : Int)))))
 (VC.br (asInt (List.getD (List.drop (0 : Nat) (rowAt [[D.int IntKind.i64 (0 : Int)], [D.int IntKind.i64 (0 : Int)], [D.int IntKind.i64 (1 : Int)], [D.int IntKind.i64 (2 : Int)]] (Int.toNat (bits BinOp.and IntKind.i64 (Int.fdiv (kS (listOf Int (rowsOn l)) (1 : Int)) (64 : Int)) (3 : Int))))) (0 : Nat) D.nilp) == (2 : Int))
  (VC.br (decide (IntKind.wrap IntKind.i64 (sec + w) ≤ (2 : Int)))
   (FnA.at_ a_make 0 (F_mk0 l w win r0 r1 r2 (asInt (List.getD (List.drop (0 : Nat) (rowAt [[D.int IntKind.i64 (0 : Int)], [D.int IntKind.i64 (0 : Int)], [D.int IntKind.i64 (1 : Int)], [D.int IntKind.i64 (2 : Int)]] (Int.toNat (bits BinOp.and IntKind.i64 (Int.fdiv (kS (listOf Int (rowsOn l)) (1 : Int)) (64 : Int)) (3 : Int))))) (0 : Nat) D.nilp)) pub (IntKind.wrap IntKind.i64 (sec + w)) (4 : Int)))
   (FnA.at_ a_make 0 (F_mk0 l w win r0 r1 r2 (0 : Int) pub sec (4 : Int))))
  (FnA.at_ a_make 0 (F_mk0 l w win r0 r1 r2 (0 : Int) pub sec (4 : Int))))))))) := by kernel_rfl
set_option maxRecDepth 100000 in
theorem t_mk04 (l : List Int) (w win r0 r1 r2 r3 pub sec : Int) : a_make.round s_make 400 0 (F_mk0 l w win r0 r1 r2 r3 pub sec 4) =
(VC.need (PreOk c_mkk (l, (1 : Int)) [A.c (D.int IntKind.i64 (1 : Int)), A.c (D.rptr [D.sl (rowsOn l)])])
(VC.need ((0 : Int) ≤ (8 : Int))
(VC.br (decide ((0 : Int) < bits BinOp.and IntKind.i64 (Int.fdiv (kS (listOf Int (rowsOn l)) (1 : Int)) (256 : Int)) (3 : Int)))
 (VC.need ((List.all [[D.str { data := #[(109 : UInt8)] }, D.bool false, D.int IntKind.i64 (1 : Int)]] fun r ↦ List.length r == (3 : Nat)) = true ∧ (List.all ([] : List (List D)) fun r ↦ List.length r == (3 : Nat)) = true ∧ (3333 : Nat) ≤ (70368744177664 : Nat))
 (VC.br (w == (1 : Int))
  (VC.need (PreOk c_mkk (l, (1 : Int)) [A.c (D.int IntKind.i64 (1 : Int)), A.c (D.rptr [D.sl (rowsOn l)])])
  (VC.need ((0 : Int) ≤ (10 : Int))
  (VC.br (bits BinOp.and IntKind.i64 (Int.fdiv (kS (listOf Int (rowsOn l)) (1 : Int)) (1024 : Int)) (3 : Int) == (0 : Int))
   (VC.need ((0 : Int) ≤ (0 : Int) ∧ (0 : Int) < (1 : Int))
   (VC.need ((0 : Nat) < (1 : Nat) ∧ (3 : Nat) = (3 : Nat) ∧ (3 : Nat) ≤ (3 : Nat))
   (VC.need (PreOk c_mkk (l, (1 : Int)) [A.c (D.int IntKind.i64 (1 : Int)), A.c (D.rptr [D.sl (rowsOn l)])])
   (VC.need ((0 : Int) ≤ (12 : Int))
   (VC.br (decide ((0 : Int) < bits BinOp.and IntKind.i64 (Int.fdiv (kS (listOf Int (rowsOn l)) (1 : Int)) (4096 : Int)) (3 : Int)))
    (VC.br (decide (IntKind.wrap IntKind.i64 (sec + w) ≤ (3 : Int)))
     (VC.need ((0 : Int) ≤ (0 : Int) ∧ (0 : Int) < (1 : Int))
     (VC.need ((0 : Nat) < (1 : Nat) ∧ (3 : Nat) = (3 : Nat) ∧ okSh [Kd.int IntKind.i64] [D.int IntKind.i64 (2 : Int)])
     (VC.need (PreOk c_mkk (l, (0 : Int)) [A.c (D.int IntKind.i64 (0 : Int)), A.c (D.rptr [D.sl (rowsOn l)])])
     (VC.need ((0 : Int) ≤ (12 : Int))
     (FnA.at_ a_make 1 (F_mk1 l w win r0 r1 r2 r3 [[D.str { data := #[(109 : UInt8)] }, D.bool false, D.int IntKind.i64 (2 : Int)]] [] [] (1 : Nat) (0 : Nat) (0 : Nat) (IntKind.wrap IntKind.i64 (bits BinOp.and IntKind.i64 (Int.fdiv (kS (listOf Int (rowsOn l)) (0 : Int)) (4096 : Int)) (3 : Int) + (2 : Int))) (0 : Int)))))))
     (VC.need (PreOk c_mkk (l, (0 : Int)) [A.c (D.int IntKind.i64 (0 : Int)), A.c (D.rptr [D.sl (rowsOn l)])])
     (VC.need ((0 : Int) ≤ (12 : Int))
     (FnA.at_ a_make 1 (F_mk1 l w win r0 r1 r2 r3 [[D.str { data := #[(109 : UInt8)] }, D.bool false, D.int IntKind.i64 (2 : Int)]] [] [] (1 : Nat) (0 : Nat) (0 : Nat) (IntKind.wrap IntKind.i64 (bits BinOp.and IntKind.i64 (Int.fdiv (kS (listOf Int (rowsOn l)) (0 : Int)) (4096 : Int)) (3 : Int) + (2 : Int))) (0 : Int))))))
    (VC.need (PreOk c_mkk (l, (0 : Int)) [A.c (D.int IntKind.i64 (0 : Int)), A.c (D.rptr [D.sl (rowsOn l)])])
    (VC.need ((0 : Int) ≤ (12 : Int))
    (FnA.at_ a_make 1 (F_mk1 l w win r0 r1 r2 r3 [[D.str { data := #[(109 : UInt8)] }, D.bool false, D.int IntKind.i64 (2 : Int)]] [] [] (1 : Nat) (0 : Nat) (0 : Nat) (IntKind.wrap IntKind.i64 (bits BinOp.and IntKind.i64 (Int.fdiv (kS (listOf Int (rowsOn l)) (0 : Int)) (4096 : Int)) (3 : Int) + (2 : Int))) (0 : Int))))))))))
   (VC.need (PreOk c_mkk (l, (1 : Int)) [A.c (D.int IntKind.i64 (1 : Int)), A.c (D.rptr [D.sl (rowsOn l)])])
   (VC.need ((0 : Int) ≤ (12 : Int))
   (VC.br (decide ((0 : Int) < bits BinOp.and IntKind.i64 (Int.fdiv (kS (listOf Int (rowsOn l)) (1 : Int)) (4096 : Int)) (3 : Int)))
    (VC.br (decide (IntKind.wrap IntKind.i64 (sec + w) ≤ (3 : Int)))
     (VC.need ((0 : Int) ≤ (0 : Int) ∧ (0 : Int) < (1 : Int))
     (VC.need ((0 : Nat) < (1 : Nat) ∧ (3 : Nat) = (3 : Nat) ∧ okSh [Kd.int IntKind.i64] [D.int IntKind.i64 (1 : Int)])
     (VC.need ((List.all [[D.str { data := #[(115 : UInt8)] }, D.bool true, D.int IntKind.i64 (1 : Int)]] fun r ↦ List.length r == (3 : Nat)) = true ∧ (List.all [[D.str { data := #[(109 : UInt8)] }, D.bool false, D.int IntKind.i64 (1 : Int)]] fun r ↦ List.length r == (3 : Nat)) = true ∧ (3366 : Nat) ≤ (70368744177664 : Nat))
     (VC.need (PreOk c_mkk (l, (0 : Int)) [A.c (D.int IntKind.i64 (0 : Int)), A.c (D.rptr [D.sl (rowsOn l)])])
     (VC.need ((0 : Int) ≤ (12 : Int))
     (FnA.at_ a_make 1 (F_mk1 l w win r0 r1 r2 r3 [[D.str { data := #[(109 : UInt8)] }, D.bool false, D.int IntKind.i64 (1 : Int)], [D.str { data := #[(115 : UInt8)] }, D.bool true, D.int IntKind.i64 (1 : Int)]] [] [] (2 : Nat) (0 : Nat) (0 : Nat) (IntKind.wrap IntKind.i64 (bits BinOp.and IntKind.i64 (Int.fdiv (kS (listOf Int (rowsOn l)) (0 : Int)) (4096 : Int)) (3 : Int) + (2 : Int))) (0 : Int))))))))
     (VC.need (PreOk c_mkk (l, (0 : Int)) [A.c (D.int IntKind.i64 (0 : Int)), A.c (D.rptr [D.sl (rowsOn l)])])
     (VC.need ((0 : Int) ≤ (12 : Int))
     (FnA.at_ a_make 1 (F_mk1 l w win r0 r1 r2 r3 [[D.str { data := #[(109 : UInt8)] }, D.bool false, D.int IntKind.i64 (1 : Int)]] [] [] (1 : Nat) (0 : Nat) (0 : Nat) (IntKind.wrap IntKind.i64 (bits BinOp.and IntKind.i64 (Int.fdiv (kS (listOf Int (rowsOn l)) (0 : Int)) (4096 : Int)) (3 : Int) + (2 : Int))) (0 : Int))))))
    (VC.need (PreOk c_mkk (l, (0 : Int)) [A.c (D.int IntKind.i64 (0 : Int)), A.c (D.rptr [D.sl (rowsOn l)])])
    (VC.need ((0 : Int) ≤ (12 : Int))
    (FnA.at_ a_make 1 (F_mk1 l w win r0 r1 r2 r3 [[D.str { data := #[(109 : UInt8)] }, D.bool false, D.int IntKind.i64 (1 : Int)]] [] [] (1 : Nat) (0 : Nat) (0 : Nat) (IntKind.wrap IntKind.i64 (bits BinOp.and IntKind.i64 (Int.fdiv (kS (listOf Int (rowsOn l)) (0 : Int)) (4096 : Int)) (3 : Int) + (2 : Int))) (0 : Int)))))))))))
  (VC.need (PreOk c_mkk (l, (1 : Int)) [A.c (D.int IntKind.i64 (1 : Int)), A.c (D.rptr [D.sl (rowsOn l)])])
  (VC.need ((0 : Int) ≤ (12 : Int))
  (VC.br (decide ((0 : Int) < bits BinOp.and IntKind.i64 (Int.fdiv (kS (listOf Int (rowsOn l)) (1 : Int)) (4096 : Int)) (3 : Int)))
   (VC.br (decide (IntKind.wrap IntKind.i64 (sec + w) ≤ (3 : Int)))
    (VC.need ((0 : Int) ≤ (0 : Int) ∧ (0 : Int) < (1 : Int))
    (VC.need ((0 : Nat) < (1 : Nat) ∧ (3 : Nat) = (3 : Nat) ∧ okSh [Kd.int IntKind.i64] [D.int IntKind.i64 (1 : Int)])
    (VC.need ((List.all [[D.str { data := #[(115 : UInt8)] }, D.bool true, D.int IntKind.i64 (1 : Int)]] fun r ↦ List.length r == (3 : Nat)) = true ∧ (List.all [[D.str { data := #[(109 : UInt8)] }, D.bool false, D.int IntKind.i64 (1 : Int)]] fun r ↦ List.length r == (3 : Nat)) = true ∧ (3366 : Nat) ≤ (70368744177664 : Nat))
    (VC.need (PreOk c_mkk (l, (0 : Int)) [A.c (D.int IntKind.i64 (0 : Int)), A.c (D.rptr [D.sl (rowsOn l)])])
    (VC.need ((0 : Int) ≤ (12 : Int))
    (FnA.at_ a_make 1 (F_mk1 l w win r0 r1 r2 r3 [[D.str { data := #[(109 : UInt8)] }, D.bool false, D.int IntKind.i64 (1 : Int)], [D.str { data := #[(115 : UInt8)] }, D.bool true, D.int IntKind.i64 (1 : Int)]] [] [] (2 : Nat) (0 : Nat) (0 : Nat) (IntKind.wrap IntKind.i64 (bits BinOp.and IntKind.i64 (Int.fdiv (kS (listOf Int (rowsOn l)) (0 : Int)) (4096 : Int)) (3 : Int) + (2 : Int))) (0 : Int))))))))
    (VC.need (PreOk c_mkk (l, (0 : Int)) [A.c (D.int IntKind.i64 (0 : Int)), A.c (D.rptr [D.sl (rowsOn l)])])
    (VC.need ((0 : Int) ≤ (12 : Int))
    (FnA.at_ a_make 1 (F_mk1 l w win r0 r1 r2 r3 [[D.str { data := #[(109 : UInt8)] }, D.bool false, D.int IntKind.i64 (1 : Int)]] [] [] (1 : Nat) (0 : Nat) (0 : Nat) (IntKind.wrap IntKind.i64 (bits BinOp.and IntKind.i64 (Int.fdiv (kS (listOf Int (rowsOn l)) (0 : Int)) (4096 : Int)) (3 : Int) + (2 : Int))) (0 : Int))))))
   (VC.need (PreOk c_mkk (l, (0 : Int)) [A.c (D.int IntKind.i64 (0 : Int)), A.c (D.rptr [D.sl (rowsOn l)])])
   (VC.need ((0 : Int) ≤ (12 : Int))
   (FnA.at_ a_make 1 (F_mk1 l w win r0 r1 r2 r3 [[D.str { data := #[(109 : UInt8)] }, D.bool false, D.int IntKind.i64 (1 : Int)]] [] [] (1 : Nat) (0 : Nat) (0 : Nat) (IntKind.wrap IntKind.i64 (bits BinOp.and IntKind.i64 (Int.fdiv (kS (listOf Int (rowsOn l)) (0 : Int)) (4096 : Int)) (3 : Int) + (2 : Int))) (0 : Int))))))))))
 (VC.need (PreOk c_mkk (l, (1 : Int)) [A.c (D.int IntKind.i64 (1 : Int)), A.c (D.rptr [D.sl (rowsOn l)])])
 (VC.need ((0 : Int) ≤ (12 : Int))
 (VC.br (decide ((0 : Int) < bits BinOp.and IntKind.i64 (Int.fdiv (kS (listOf Int (rowsOn l)) (1 : Int)) (4096 : Int)) (3 : Int)))
  (VC.br (decide (IntKind.wrap IntKind.i64 (sec + w) ≤ (3 : Int)))
   (VC.need ((List.all [[D.str { data := #[(115 : UInt8)] }, D.bool true, D.int IntKind.i64 (1 : Int)]] fun r ↦ List.length r == (3 : Nat)) = true ∧ (List.all ([] : List (List D)) fun r ↦ List.length r == (3 : Nat)) = true ∧ (3333 : Nat) ≤ (70368744177664 : Nat))
   (VC.need (PreOk c_mkk (l, (0 : Int)) [A.c (D.int IntKind.i64 (0 : Int)), A.c (D.rptr [D.sl (rowsOn l)])])
   (VC.need ((0 : Int) ≤ (12 : Int))
   (FnA.at_ a_make 1 (F_mk1 l w win r0 r1 r2 r3 [[D.str { data := #[(115 : UInt8)] }, D.bool true, D.int IntKind.i64 (1 : Int)]] [] [] (1 : Nat) (0 : Nat) (0 : Nat) (IntKind.wrap IntKind.i64 (bits BinOp.and IntKind.i64 (Int.fdiv (kS (listOf Int (rowsOn l)) (0 : Int)) (4096 : Int)) (3 : Int) + (2 : Int))) (0 : Int))))))
   (VC.need (PreOk c_mkk (l, (0 : Int)) [A.c (D.int IntKind.i64 (0 : Int)), A.c (D.rptr [D.sl (rowsOn l)])])
   (VC.need ((0 : Int) ≤ (12 : Int))
   (FnA.at_ a_make 1 (F_mk1 l w win r0 r1 r2 r3 [] [] [] (0 : Nat) (0 : Nat) (0 : Nat) (IntKind.wrap IntKind.i64 (bits BinOp.and IntKind.i64 (Int.fdiv (kS (listOf Int (rowsOn l)) (0 : Int)) (4096 : Int)) (3 : Int) + (2 : Int))) (0 : Int))))))
  (VC.need (PreOk c_mkk (l, (0 : Int)) [A.c (D.int IntKind.i64 (0 : Int)), A.c (D.rptr [D.sl (rowsOn l)])])
  (VC.need ((0 : Int) ≤ (12 : Int))
  (FnA.at_ a_make 1 (F_mk1 l w win r0 r1 r2 r3 [] [] [] (0 : Nat) (0 : Nat) (0 : Nat) (IntKind.wrap IntKind.i64 (bits BinOp.and IntKind.i64 (Int.fdiv (kS (listOf Int (rowsOn l)) (0 : Int)) (4096 : Int)) (3 : Int) + (2 : Int))) (0 : Int))))))))))) := by kernel_rfl
set_option maxRecDepth 100000 in
theorem t_mk1 (l : List Int) (w win r0 r1 r2 r3 : Int) (M L I : List (List D)) (nm nl ni : Nat) (n i : Int) : a_make.round s_make 400 1 (F_mk1 l w win r0 r1 r2 r3 M L I nm nl ni n i) =
(VC.br (decide (i ≤ n))
 (VC.need (PreOk c_dig1 i [A.c (D.int IntKind.i64 i)])
 (VC.need ((1 : Nat) + ByteArray.size (digS i) ≤ (9223372036854775807 : Nat))
 (VC.need ((List.all [[D.str ({ data := #[(108 : UInt8)] } ++ digS i), D.int IntKind.i64 i]] fun r ↦ List.length r == (2 : Nat)) = true ∧ (List.all L fun r ↦ List.length r == (2 : Nat)) = true ∧ (List.length L + List.length [[D.str ({ data := #[(108 : UInt8)] } ++ digS i), D.int IntKind.i64 i]] + (100 : Nat)) * (25 : Nat) ≤ (70368744177664 : Nat))
 (FnA.at_ a_make 1 (F_mk1 l w win r0 r1 r2 r3 M (L ++ [[D.str ({ data := #[(108 : UInt8)] } ++ digS i), D.int IntKind.i64 i]]) I nm (List.length L + List.length [[D.str ({ data := #[(108 : UInt8)] } ++ digS i), D.int IntKind.i64 i]]) ni n (IntKind.wrap IntKind.i64 (i + (1 : Int))))))))
 (FnA.at_ a_make 2 (F_mk2 l w win r0 r1 r2 r3 M L I nm nl ni n (0 : Int)))) := by kernel_rfl
set_option maxRecDepth 100000 in
theorem t_mk2 (l : List Int) (w win r0 r1 r2 r3 : Int) (M L I : List (List D)) (nm nl ni : Nat) (n i : Int) : a_make.round s_make 400 2 (F_mk2 l w win r0 r1 r2 r3 M L I nm nl ni n i) =
(VC.br (decide (i < n))
 (VC.need (PreOk c_mkk (l, IntKind.wrap IntKind.i64 (i + (2 : Int))) [A.c (D.int IntKind.i64 (IntKind.wrap IntKind.i64 (i + (2 : Int)))), A.c (D.rptr [D.sl (rowsOn l)])])
 (VC.need (PreOk c_lins (kS l (IntKind.wrap IntKind.i64 (i + (2 : Int))), n) [A.c (D.int IntKind.i64 (kS (listOf Int (rowsOn l)) (IntKind.wrap IntKind.i64 (i + (2 : Int))))), A.c (D.int IntKind.i64 n)])
 (VC.need ((List.all [[D.int IntKind.i64 (insM (kS (listOf Int (rowsOn l)) (IntKind.wrap IntKind.i64 (i + (2 : Int)))) n).kind, D.int IntKind.i64 (insM (kS (listOf Int (rowsOn l)) (IntKind.wrap IntKind.i64 (i + (2 : Int)))) n).op, D.int IntKind.i64 (insM (kS (listOf Int (rowsOn l)) (IntKind.wrap IntKind.i64 (i + (2 : Int)))) n).d, D.bool (insM (kS (listOf Int (rowsOn l)) (IntKind.wrap IntKind.i64 (i + (2 : Int)))) n).aR, D.int IntKind.i64 (insM (kS (listOf Int (rowsOn l)) (IntKind.wrap IntKind.i64 (i + (2 : Int)))) n).aN, D.bool (insM (kS (listOf Int (rowsOn l)) (IntKind.wrap IntKind.i64 (i + (2 : Int)))) n).bR, D.int IntKind.i64 (insM (kS (listOf Int (rowsOn l)) (IntKind.wrap IntKind.i64 (i + (2 : Int)))) n).bN, D.str (insM (kS (listOf Int (rowsOn l)) (IntKind.wrap IntKind.i64 (i + (2 : Int)))) n).name, D.int IntKind.i64 (insM (kS (listOf Int (rowsOn l)) (IntKind.wrap IntKind.i64 (i + (2 : Int)))) n).target]] fun r ↦ List.length r == (9 : Nat)) = true ∧ (List.all I fun r ↦ List.length r == (9 : Nat)) = true ∧ (List.length I + List.length [[D.int IntKind.i64 (insM (kS (listOf Int (rowsOn l)) (IntKind.wrap IntKind.i64 (i + (2 : Int)))) n).kind, D.int IntKind.i64 (insM (kS (listOf Int (rowsOn l)) (IntKind.wrap IntKind.i64 (i + (2 : Int)))) n).op, D.int IntKind.i64 (insM (kS (listOf Int (rowsOn l)) (IntKind.wrap IntKind.i64 (i + (2 : Int)))) n).d, D.bool (insM (kS (listOf Int (rowsOn l)) (IntKind.wrap IntKind.i64 (i + (2 : Int)))) n).aR, D.int IntKind.i64 (insM (kS (listOf Int (rowsOn l)) (IntKind.wrap IntKind.i64 (i + (2 : Int)))) n).aN, D.bool (insM (kS (listOf Int (rowsOn l)) (IntKind.wrap IntKind.i64 (i + (2 : Int)))) n).bR, D.int IntKind.i64 (insM (kS (listOf Int (rowsOn l)) (IntKind.wrap IntKind.i64 (i + (2 : Int)))) n).bN, D.str (insM (kS (listOf Int (rowsOn l)) (IntKind.wrap IntKind.i64 (i + (2 : Int)))) n).name, D.int IntKind.i64 (insM (kS (listOf Int (rowsOn l)) (IntKind.wrap IntKind.i64 (i + (2 : Int)))) n).target]] + (100 : Nat)) * (81 : Nat) ≤ (70368744177664 : Nat))
 (FnA.at_ a_make 2 (F_mk2 l w win r0 r1 r2 r3 M L (I ++ [[D.int IntKind.i64 (insM (kS (listOf Int (rowsOn l)) (IntKind.wrap IntKind.i64 (i + (2 : Int)))) n).kind, D.int IntKind.i64 (insM (kS (listOf Int (rowsOn l)) (IntKind.wrap IntKind.i64 (i + (2 : Int)))) n).op, D.int IntKind.i64 (insM (kS (listOf Int (rowsOn l)) (IntKind.wrap IntKind.i64 (i + (2 : Int)))) n).d, D.bool (insM (kS (listOf Int (rowsOn l)) (IntKind.wrap IntKind.i64 (i + (2 : Int)))) n).aR, D.int IntKind.i64 (insM (kS (listOf Int (rowsOn l)) (IntKind.wrap IntKind.i64 (i + (2 : Int)))) n).aN, D.bool (insM (kS (listOf Int (rowsOn l)) (IntKind.wrap IntKind.i64 (i + (2 : Int)))) n).bR, D.int IntKind.i64 (insM (kS (listOf Int (rowsOn l)) (IntKind.wrap IntKind.i64 (i + (2 : Int)))) n).bN, D.str (insM (kS (listOf Int (rowsOn l)) (IntKind.wrap IntKind.i64 (i + (2 : Int)))) n).name, D.int IntKind.i64 (insM (kS (listOf Int (rowsOn l)) (IntKind.wrap IntKind.i64 (i + (2 : Int)))) n).target]]) nm nl (List.length I + List.length [[D.int IntKind.i64 (insM (kS (listOf Int (rowsOn l)) (IntKind.wrap IntKind.i64 (i + (2 : Int)))) n).kind, D.int IntKind.i64 (insM (kS (listOf Int (rowsOn l)) (IntKind.wrap IntKind.i64 (i + (2 : Int)))) n).op, D.int IntKind.i64 (insM (kS (listOf Int (rowsOn l)) (IntKind.wrap IntKind.i64 (i + (2 : Int)))) n).d, D.bool (insM (kS (listOf Int (rowsOn l)) (IntKind.wrap IntKind.i64 (i + (2 : Int)))) n).aR, D.int IntKind.i64 (insM (kS (listOf Int (rowsOn l)) (IntKind.wrap IntKind.i64 (i + (2 : Int)))) n).aN, D.bool (insM (kS (listOf Int (rowsOn l)) (IntKind.wrap IntKind.i64 (i + (2 : Int)))) n).bR, D.int IntKind.i64 (insM (kS (listOf Int (rowsOn l)) (IntKind.wrap IntKind.i64 (i + (2 : Int)))) n).bN, D.str (insM (kS (listOf Int (rowsOn l)) (IntKind.wrap IntKind.i64 (i + (2 : Int)))) n).name, D.int IntKind.i64 (insM (kS (listOf Int (rowsOn l)) (IntKind.wrap IntKind.i64 (i + (2 : Int)))) n).target]]) n (IntKind.wrap IntKind.i64 (i + (1 : Int))))))))
 (VC.ret (some (RR.agg [Rc.d (D.int IntKind.i64 w), Rc.d (D.int IntKind.i64 win), Rc.d (D.int IntKind.i64 (6 : Int)), Rc.d (D.int IntKind.i64 r0), Rc.d (D.int IntKind.i64 r1), Rc.d (D.int IntKind.i64 r2), Rc.d (D.int IntKind.i64 r3), Rc.new (3 : Nat) M, Rc.new (2 : Nat) L, Rc.new (9 : Nat) I])))) := by kernel_rfl
def Prg.fresh (p : Prg) : List Rc := [.d (.int .i64 p.w), .d (.int .i64 p.window), .d (.int .i64 p.fuel), .d (.int .i64 p.r0), .d (.int .i64 p.r1), .d (.int .i64 p.r2), .d (.int .i64 p.r3), .new 3 (rowsOn p.mems), .new 2 (rowsOn p.labels), .new 9 (rowsOn p.ins)]
def bitsR (v w r : Int) : Int := if r = v then w else 0
structure HRegs (w r0 r1 r2 r3 : Int) : Prop where
  hw : 1 ≤ w ∧ w ≤ 2
  h0 : 0 ≤ r0 ∧ r0 ≤ 2
  h1 : 0 ≤ r1 ∧ r1 ≤ 2
  h2 : 0 ≤ r2 ∧ r2 ≤ 2
  h3 : 0 ≤ r3 ∧ r3 ≤ 2
  pub : bitsR 1 w r0 + bitsR 1 w r1 + bitsR 1 w r2 + bitsR 1 w r3 ≤ 2
  sec : bitsR 2 w r0 + bitsR 2 w r1 + bitsR 2 w r2 + bitsR 2 w r3 ≤ 2
def mM (n : Int) : PMem := ⟨⟨#[109]⟩, false, n⟩
def mS1 : PMem := ⟨⟨#[115]⟩, true, 1⟩
/-- The regions that Make makes. -/
def MemsF (ms : List PMem) : Prop := ms = [] ∨ ms = [mM 1] ∨ ms = [mM 2] ∨ ms = [mS1] ∨ ms = [mM 1, mS1]
structure HMems (w r0 r1 r2 r3 : Int) (ms : List PMem) : Prop where
  shape : MemsF ms
  len : ms.length ≤ 2
  n : ∀ m ∈ ms, 1 ≤ m.n ∧ m.n ≤ 2
  cells : cellsS ms ≤ 2
/-- A program that Make makes. -/
structure WFM (p : Prg) : Prop where
  regs : HRegs p.w p.r0 p.r1 p.r2 p.r3
  win : 1 ≤ p.window ∧ p.window ≤ 3
  fuel : p.fuel = 6
  mems : HMems p.w p.r0 p.r1 p.r2 p.r3 p.mems
  labels : p.labels.length ≤ 10
  len : 2 ≤ p.ins.length ∧ p.ins.length ≤ 5
  ins : ∀ i ∈ p.ins, WFI p.ins.length i
def MkQ (r : RR) : Prop := ∃ p, WFM p ∧ r = .agg p.fresh
theorem digS_size (n : Int) : (digS n).size = 1 := by
  unfold digS
  repeat' split
  all_goals rfl
theorem l_mk2 (l : List Int) (w win r0 r1 r2 r3 n : Int) (M L : List (List D)) (nm nl : Nat) (ms : List PMem) (ls : List PLabel) (hr : HRegs w r0 r1 r2 r3) (hwin : 1 ≤ win ∧ win ≤ 3) (hM : OnL M nm ms) (hL : OnL L nl ls) (hms : HMems w r0 r1 r2 r3 ms) (hls : ls.length ≤ 10) (hn : 2 ≤ n ∧ n ≤ 5) : ∀ i_ : Int × List (List D) × Nat, (fun (i : Int × List (List D) × Nat) => 0 ≤ i.1 ∧ i.1 ≤ n ∧ ∃ is : List Ins, OnL i.2.1 i.2.2 is ∧ is.length = i.1 ∧ ∀ x ∈ is, WFI n x) i_ → (a_make.at_ 2 ((fun (i : Int × List (List D) × Nat) => F_mk2 l w win r0 r1 r2 r3 M L i.2.1 nm nl i.2.2 n i.1) i_)).holds s_make.cx a_make.rs (MkQ) := by
  refine loop_rule (a := a_make) (j := 2) (m := 400) s_make_sound (fun (i : Int × List (List D) × Nat) => F_mk2 l w win r0 r1 r2 r3 M L i.2.1 nm nl i.2.2 n i.1) (fun (i : Int × List (List D) × Nat) => 0 ≤ i.1 ∧ i.1 ≤ n ∧ ∃ is : List Ins, OnL i.2.1 i.2.2 is ∧ is.length = i.1 ∧ ∀ x ∈ is, WFI n x) (fun (i : Int × List (List D) × Nat) => (n - i.1).toNat) ?_
  rintro ⟨i, I, ni⟩ h_inv ih
  try dsimp only at h_inv
  replace ih := fun (v0 : Int) (v1 : List (List D)) (v2 : Nat) => ih (v0, v1, v2)
  try dsimp only at ih
  show VC.holds _ _ _ (a_make.round s_make 400 2 (F_mk2 l w win r0 r1 r2 r3 M L I nm nl ni n i))
  rw [t_mk2]
  try simp only [asRows_sl, asInt_int, asBool_bool, asStr_str, listOf_rowsOn, List.drop_zero, Prg.eta, Sta.eta, rowsOn_length, getD_drop, Nat.reduceAdd, rd_int, rd_PMem_name, rd_PMem_secret, rd_PMem_n, rd_PLabel_name, rd_PLabel_at_, rd_Ins_kind, rd_Ins_op, rd_Ins_d, rd_Ins_aR, rd_Ins_aN, rd_Ins_bR, rd_Ins_bN, rd_Ins_name, rd_Ins_target, rd_Ent_pc, rd_Ent_val, rd_Ent_addr, rd_Ent_fro, rd_Ent_next, rd_Ent_done, rd_Ent_known, rd_Ent_fault, rd_Place_reg, rd_Place_n, rd_Place_secret, rd_Obs_kind, rd_Obs_at_, rd_Dir_kind, rd_Dir_n]
  obtain ⟨h0, h1, is, h2, h3, h4⟩ := h_inv
  rw [wrap_small (i + 2) (by omega) (by omega), wrap_small (i + 1) (by omega) (by omega)]
  repeat' first
    | refine br_not ?_
    | refine br_dec (fun _ => ?_) (fun _ => ?_)
    | refine br_beq (fun _ => ?_) (fun _ => ?_)
    | refine br_bne (fun _ => ?_) (fun _ => ?_)
    | refine br_holds (fun _ => ?_) (fun _ => ?_)
    | refine ⟨PreOk.mk ?_ rfl, ?_⟩
    | refine ⟨idx_ok _ _ _ rfl (by omega) (by omega), ?_⟩
    | refine ⟨okSh_ok _ _ _ (fun _ => rfl) (by omega) (by omega), ?_⟩
    | refine ⟨okSh_okD _ _ _ _ (fun _ => rfl) (by omega) (by omega), ?_⟩
    | refine ⟨aload_ok _ _ rfl (fun _ => rfl) (by omega) (by omega), ?_⟩
    | refine ⟨aload_okD _ _ _ rfl (fun _ => rfl) (by omega) (by omega), ?_⟩
    | refine ⟨astore_ok (by assumption) rfl (by omega) (by omega) (by decide), ?_⟩
    | refine ⟨app_ok (by assumption) rfl rfl (by simp only [List.length_cons, List.length_nil]; omega), ?_⟩
    | refine need_holds ?_ fun _ => ?_
    | refine all_holds fun y hy => ?_
    | refine ret_eq ?_
    | refine ih _ _ _ ?_ ?_
  all_goals try (show 0 ≤ i + 2; omega)
  all_goals try (show 1 ≤ n ∧ n ≤ 1000; omega)
  · have hx := (insM_spec (kS l (i + 2)) n (by omega)).1
    refine ⟨by omega, by omega, is ++ [insM (kS l (i + 2)) n], OnL.snoc h2 (insM (kS l (i + 2)) n), by simp; omega, ?_⟩
    intro x hx'
    rcases List.mem_append.1 hx' with h | h
    · exact h4 x h
    · simp only [List.mem_singleton] at h; subst h; exact hx
  · omega
  · obtain ⟨rfl, rfl⟩ := h2
    obtain ⟨rfl, rfl⟩ := hM
    obtain ⟨rfl, rfl⟩ := hL
    have hi : (is.length : Int) = n := by omega
    exact ⟨⟨w, win, 6, r0, r1, r2, r3, ms, ls, is⟩, ⟨hr, hwin, rfl, hms, hls, by dsimp only; omega, fun x hx => by dsimp only; rw [hi]; exact h4 x hx⟩, rfl⟩
theorem l_mk1 (l : List Int) (w win r0 r1 r2 r3 n : Int) (M : List (List D)) (nm : Nat) (ms : List PMem) (hr : HRegs w r0 r1 r2 r3) (hwin : 1 ≤ win ∧ win ≤ 3) (hM : OnL M nm ms) (hms : HMems w r0 r1 r2 r3 ms) (hn : 2 ≤ n ∧ n ≤ 5) : ∀ i_ : Int × List (List D) × Nat, (fun (i : Int × List (List D) × Nat) => 0 ≤ i.1 ∧ i.1 ≤ n + 1 ∧ ∃ ls : List PLabel, OnL i.2.1 i.2.2 ls ∧ ls.length = i.1) i_ → (a_make.at_ 1 ((fun (i : Int × List (List D) × Nat) => F_mk1 l w win r0 r1 r2 r3 M i.2.1 [] nm i.2.2 0 n i.1) i_)).holds s_make.cx a_make.rs (MkQ) := by
  refine loop_rule (a := a_make) (j := 1) (m := 400) s_make_sound (fun (i : Int × List (List D) × Nat) => F_mk1 l w win r0 r1 r2 r3 M i.2.1 [] nm i.2.2 0 n i.1) (fun (i : Int × List (List D) × Nat) => 0 ≤ i.1 ∧ i.1 ≤ n + 1 ∧ ∃ ls : List PLabel, OnL i.2.1 i.2.2 ls ∧ ls.length = i.1) (fun (i : Int × List (List D) × Nat) => (n + 1 - i.1).toNat) ?_
  rintro ⟨i, L, nl⟩ h_inv ih
  try dsimp only at h_inv
  replace ih := fun (v0 : Int) (v1 : List (List D)) (v2 : Nat) => ih (v0, v1, v2)
  try dsimp only at ih
  show VC.holds _ _ _ (a_make.round s_make 400 1 (F_mk1 l w win r0 r1 r2 r3 M L [] nm nl 0 n i))
  rw [t_mk1]
  try simp only [asRows_sl, asInt_int, asBool_bool, asStr_str, listOf_rowsOn, List.drop_zero, Prg.eta, Sta.eta, rowsOn_length, getD_drop, Nat.reduceAdd, rd_int, rd_PMem_name, rd_PMem_secret, rd_PMem_n, rd_PLabel_name, rd_PLabel_at_, rd_Ins_kind, rd_Ins_op, rd_Ins_d, rd_Ins_aR, rd_Ins_aN, rd_Ins_bR, rd_Ins_bN, rd_Ins_name, rd_Ins_target, rd_Ent_pc, rd_Ent_val, rd_Ent_addr, rd_Ent_fro, rd_Ent_next, rd_Ent_done, rd_Ent_known, rd_Ent_fault, rd_Place_reg, rd_Place_n, rd_Place_secret, rd_Obs_kind, rd_Obs_at_, rd_Dir_kind, rd_Dir_n]
  obtain ⟨h0, h1, ls, h2, h3⟩ := h_inv
  rw [wrap_small (i + 1) (by omega) (by omega)]
  repeat' first
    | refine br_not ?_
    | refine br_dec (fun _ => ?_) (fun _ => ?_)
    | refine br_beq (fun _ => ?_) (fun _ => ?_)
    | refine br_bne (fun _ => ?_) (fun _ => ?_)
    | refine br_holds (fun _ => ?_) (fun _ => ?_)
    | refine ⟨PreOk.mk ?_ rfl, ?_⟩
    | refine ⟨idx_ok _ _ _ rfl (by omega) (by omega), ?_⟩
    | refine ⟨okSh_ok _ _ _ (fun _ => rfl) (by omega) (by omega), ?_⟩
    | refine ⟨okSh_okD _ _ _ _ (fun _ => rfl) (by omega) (by omega), ?_⟩
    | refine ⟨aload_ok _ _ rfl (fun _ => rfl) (by omega) (by omega), ?_⟩
    | refine ⟨aload_okD _ _ _ rfl (fun _ => rfl) (by omega) (by omega), ?_⟩
    | refine ⟨astore_ok (by assumption) rfl (by omega) (by omega) (by decide), ?_⟩
    | refine ⟨app_ok (by assumption) rfl rfl (by simp only [List.length_cons, List.length_nil]; omega), ?_⟩
    | refine need_holds ?_ fun _ => ?_
    | refine all_holds fun y hy => ?_
    | refine ret_eq ?_
    | refine ih _ _ _ ?_ ?_
  all_goals try (show 0 ≤ i ∧ i ≤ 9; omega)
  · rw [digS_size]; decide
  · exact ⟨by omega, by omega, ls ++ [_], OnL.snoc h2 (⟨_, _⟩ : PLabel), by simp; omega⟩
  · omega
  · exact l_mk2 l w win r0 r1 r2 r3 n M L nm nl ms ls hr hwin hM h2 hms (by omega) hn (0, [], 0) ⟨by simp, by simp; omega, [], OnL.nil, by simp, by simp⟩
theorem hm_nil (w r0 r1 r2 r3 : Int) : HMems w r0 r1 r2 r3 [] := ⟨.inl rfl, by simp, by simp, by simp [cellsS]⟩
theorem hm_one (w r0 r1 r2 r3 : Int) (nm : ByteArray) (b : Bool) (n : Int) (hn : 1 ≤ n ∧ n ≤ 2) (hs : MemsF [⟨nm, b, n⟩]) : HMems w r0 r1 r2 r3 [⟨nm, b, n⟩] := ⟨hs, by simp, by simpa using hn, by simp [cellsS]; omega⟩
theorem hm_two (w r0 r1 r2 r3 : Int) : HMems w r0 r1 r2 r3 [⟨⟨#[109]⟩, false, 1⟩, ⟨⟨#[115]⟩, true, 1⟩] := ⟨.inr (.inr (.inr (.inr rfl))), by simp, by simp, by simp [cellsS]⟩
theorem l_mk04 (l : List Int) (w win r0 r1 r2 r3 pub sec : Int) (hr : HRegs w r0 r1 r2 r3) (hwin : 1 ≤ win ∧ win ≤ 3) (hsec : 0 ≤ sec ∧ sec ≤ 2) : (a_make.at_ 0 (F_mk0 l w win r0 r1 r2 r3 pub sec 4)).holds s_make.cx a_make.rs MkQ := by
  have hw := hr.hw
  refine at_of_round s_make_sound (m := 400) ?_
  rw [t_mk04]
  simp only [asRows_sl, asInt_int, asBool_bool, asStr_str, listOf_rowsOn, List.drop_zero, Prg.eta, Sta.eta, rowsOn_length, getD_drop, Nat.reduceAdd, rd_int, rd_PMem_name, rd_PMem_secret, rd_PMem_n, rd_PLabel_name, rd_PLabel_at_, rd_Ins_kind, rd_Ins_op, rd_Ins_d, rd_Ins_aR, rd_Ins_aN, rd_Ins_bR, rd_Ins_bN, rd_Ins_name, rd_Ins_target, rd_Ent_pc, rd_Ent_val, rd_Ent_addr, rd_Ent_fro, rd_Ent_next, rd_Ent_done, rd_Ent_known, rd_Ent_fault, rd_Place_reg, rd_Place_n, rd_Place_secret, rd_Obs_kind, rd_Obs_at_, rd_Dir_kind, rd_Dir_n]
  simp only [and3]
  rw [wrap_small (Int.fdiv (kS l 0) 4096 % 4 + 2) (by omega) (by omega), wrap_small (sec + w) (by omega) (by omega)]
  repeat' first
    | refine br_not ?_
    | refine br_dec (fun _ => ?_) (fun _ => ?_)
    | refine br_beq (fun _ => ?_) (fun _ => ?_)
    | refine br_bne (fun _ => ?_) (fun _ => ?_)
    | refine br_holds (fun _ => ?_) (fun _ => ?_)
    | refine ⟨PreOk.mk ?_ rfl, ?_⟩
    | refine ⟨idx_ok _ _ _ rfl (by omega) (by omega), ?_⟩
    | refine ⟨okSh_ok _ _ _ (fun _ => rfl) (by omega) (by omega), ?_⟩
    | refine ⟨okSh_okD _ _ _ _ (fun _ => rfl) (by omega) (by omega), ?_⟩
    | refine ⟨aload_ok _ _ rfl (fun _ => rfl) (by omega) (by omega), ?_⟩
    | refine ⟨aload_okD _ _ _ rfl (fun _ => rfl) (by omega) (by omega), ?_⟩
    | refine ⟨astore_ok (by assumption) rfl (by omega) (by omega) (by decide), ?_⟩
    | refine ⟨app_ok (by assumption) rfl rfl (by simp only [List.length_cons, List.length_nil]; omega), ?_⟩
    | refine need_holds ?_ fun _ => ?_
    | refine all_holds fun y hy => ?_
    | refine ret_eq ?_
  all_goals try (dsimp only [c_mkk]; omega)
  all_goals try exact ⟨by decide, trivial, rfl⟩
  all_goals first
    | exact l_mk1 l w win r0 r1 r2 r3 _ _ _ [] hr hwin ⟨rfl, rfl⟩ (hm_nil ..) (by omega) (0, [], 0) ⟨by simp, by simp; omega, [], OnL.nil, rfl⟩
    | exact l_mk1 l w win r0 r1 r2 r3 _ _ _ [⟨_, _, _⟩] hr hwin ⟨rfl, rfl⟩ (hm_one _ _ _ _ _ _ _ _ (by decide) (by first | exact .inr (.inl rfl) | exact .inr (.inr (.inl rfl)) | exact .inr (.inr (.inr (.inl rfl))))) (by omega) (0, [], 0) ⟨by simp, by simp; omega, [], OnL.nil, rfl⟩
    | exact l_mk1 l w win r0 r1 r2 r3 _ _ _ [⟨_, _, _⟩, ⟨_, _, _⟩] hr hwin ⟨rfl, rfl⟩ (hm_two ..) (by omega) (0, [], 0) ⟨by simp, by simp; omega, [], OnL.nil, rfl⟩
    | skip
  all_goals try omega
  all_goals try exact ⟨rfl, rfl, by decide⟩
  all_goals try exact ⟨by decide, trivial, by decide⟩
theorem br11 (w : Int) : bitsR 1 w 1 = w := if_pos rfl
theorem br12 (w : Int) : bitsR 1 w 2 = 0 := if_neg (by decide)
theorem br21 (w : Int) : bitsR 2 w 1 = 0 := if_neg (by decide)
theorem br22 (w : Int) : bitsR 2 w 2 = w := if_pos rfl
theorem br10 (w : Int) : bitsR 1 w 0 = 0 := if_neg (by decide)
theorem br20 (w : Int) : bitsR 2 w 0 = 0 := if_neg (by decide)
theorem tabR : ∀ i : Nat, i < 4 → (asInt (List.getD (rowAt [[D.int IntKind.i64 (0 : Int)], [D.int IntKind.i64 (0 : Int)], [D.int IntKind.i64 (1 : Int)], [D.int IntKind.i64 (2 : Int)]] i) 0 D.nilp) = 0 ∨ asInt (List.getD (rowAt [[D.int IntKind.i64 (0 : Int)], [D.int IntKind.i64 (0 : Int)], [D.int IntKind.i64 (1 : Int)], [D.int IntKind.i64 (2 : Int)]] i) 0 D.nilp) = 1 ∨ asInt (List.getD (rowAt [[D.int IntKind.i64 (0 : Int)], [D.int IntKind.i64 (0 : Int)], [D.int IntKind.i64 (1 : Int)], [D.int IntKind.i64 (2 : Int)]] i) 0 D.nilp) = 2) ∧ (rowAt [[D.int IntKind.i64 (0 : Int)], [D.int IntKind.i64 (0 : Int)], [D.int IntKind.i64 (1 : Int)], [D.int IntKind.i64 (2 : Int)]] i).length = 1 ∧ okSh [Kd.int IntKind.i64] (rowAt [[D.int IntKind.i64 (0 : Int)], [D.int IntKind.i64 (0 : Int)], [D.int IntKind.i64 (1 : Int)], [D.int IntKind.i64 (2 : Int)]] i) := by
  intro i hi
  have : i = 0 ∨ i = 1 ∨ i = 2 ∨ i = 3 := by omega
  rcases this with h | h | h | h <;> (subst h; exact ⟨by decide, rfl, rfl⟩)
theorem l_mk03 (l : List Int) (w win r0 r1 r2 pub sec : Int) (hr : HRegs w r0 r1 r2 0) (hwin : 1 ≤ win ∧ win ≤ 3) (hp : pub = bitsR 1 w r0 + bitsR 1 w r1 + bitsR 1 w r2) (hs : sec = bitsR 2 w r0 + bitsR 2 w r1 + bitsR 2 w r2) (hp2 : 0 ≤ pub ∧ pub ≤ 2) (hs2 : 0 ≤ sec ∧ sec ≤ 2) : (a_make.at_ 0 (F_mk0 l w win r0 r1 r2 0 pub sec 3)).holds s_make.cx a_make.rs MkQ := by
  have hw := hr.hw
  refine at_of_round s_make_sound (m := 400) ?_
  rw [t_mk03]
  simp only [asRows_sl, asInt_int, asBool_bool, asStr_str, listOf_rowsOn, List.drop_zero, Prg.eta, Sta.eta, rowsOn_length, getD_drop, Nat.reduceAdd, rd_int, rd_PMem_name, rd_PMem_secret, rd_PMem_n, rd_PLabel_name, rd_PLabel_at_, rd_Ins_kind, rd_Ins_op, rd_Ins_d, rd_Ins_aR, rd_Ins_aN, rd_Ins_bR, rd_Ins_bN, rd_Ins_name, rd_Ins_target, rd_Ent_pc, rd_Ent_val, rd_Ent_addr, rd_Ent_fro, rd_Ent_next, rd_Ent_done, rd_Ent_known, rd_Ent_fault, rd_Place_reg, rd_Place_n, rd_Place_secret, rd_Obs_kind, rd_Obs_at_, rd_Dir_kind, rd_Dir_n]
  simp only [and3]
  rw [wrap_small (pub + w) (by omega) (by omega), wrap_small (sec + w) (by omega) (by omega)]
  have h1 := tabR (Int.fdiv (kS l 1) 64 % 4).toNat (by omega)
  refine ⟨PreOk.mk (by dsimp only [c_mkk]; omega) rfl, by decide, ⟨by omega, by omega⟩, ⟨by omega, h1.2.1, h1.2.2⟩, ?_⟩
  obtain ⟨h2, _⟩ := h1
  revert h2
  generalize asInt (List.getD (rowAt _ (Int.fdiv (kS l 1) 64 % 4).toNat) 0 D.nilp) = kd
  intro h2
  have e1 := br11 w
  have e2 := br12 w
  have e3 := br21 w
  have e4 := br22 w
  have e5 := br10 w
  have e6 := br20 w
  obtain ⟨hw', g0, g1, g2, g3, gp, gs⟩ := hr
  rcases h2 with rfl | rfl | rfl
  all_goals
    repeat' first
      | refine br_not ?_
      | refine br_dec (fun _ => ?_) (fun _ => ?_)
      | refine br_beq (fun _ => ?_) (fun _ => ?_)
      | refine br_bne (fun _ => ?_) (fun _ => ?_)
      | refine br_holds (fun _ => ?_) (fun _ => ?_)
      | refine ⟨PreOk.mk ?_ rfl, ?_⟩
      | refine ⟨idx_ok _ _ _ rfl (by omega) (by omega), ?_⟩
      | refine ⟨okSh_ok _ _ _ (fun _ => rfl) (by omega) (by omega), ?_⟩
      | refine ⟨okSh_okD _ _ _ _ (fun _ => rfl) (by omega) (by omega), ?_⟩
      | refine ⟨aload_ok _ _ rfl (fun _ => rfl) (by omega) (by omega), ?_⟩
      | refine ⟨aload_okD _ _ _ rfl (fun _ => rfl) (by omega) (by omega), ?_⟩
      | refine ⟨astore_ok (by assumption) rfl (by omega) (by omega) (by decide), ?_⟩
      | refine ⟨app_ok (by assumption) rfl rfl (by simp only [List.length_cons, List.length_nil]; omega), ?_⟩
      | refine need_holds ?_ fun _ => ?_
      | refine all_holds fun y hy => ?_
      | refine ret_eq ?_
  all_goals try omega
  all_goals exact l_mk04 l w win r0 r1 r2 _ _ _ ⟨by omega, by omega, by omega, by omega, by omega, by omega, by omega⟩ hwin (by omega)
theorem l_mk02 (l : List Int) (w win r0 r1 pub sec : Int) (hr : HRegs w r0 r1 0 0) (hwin : 1 ≤ win ∧ win ≤ 3) (hp : pub = bitsR 1 w r0 + bitsR 1 w r1) (hs : sec = bitsR 2 w r0 + bitsR 2 w r1) (hp2 : 0 ≤ pub ∧ pub ≤ 2) (hs2 : 0 ≤ sec ∧ sec ≤ 2) : (a_make.at_ 0 (F_mk0 l w win r0 r1 0 0 pub sec 2)).holds s_make.cx a_make.rs MkQ := by
  have hw := hr.hw
  refine at_of_round s_make_sound (m := 400) ?_
  rw [t_mk02]
  simp only [asRows_sl, asInt_int, asBool_bool, asStr_str, listOf_rowsOn, List.drop_zero, Prg.eta, Sta.eta, rowsOn_length, getD_drop, Nat.reduceAdd, rd_int, rd_PMem_name, rd_PMem_secret, rd_PMem_n, rd_PLabel_name, rd_PLabel_at_, rd_Ins_kind, rd_Ins_op, rd_Ins_d, rd_Ins_aR, rd_Ins_aN, rd_Ins_bR, rd_Ins_bN, rd_Ins_name, rd_Ins_target, rd_Ent_pc, rd_Ent_val, rd_Ent_addr, rd_Ent_fro, rd_Ent_next, rd_Ent_done, rd_Ent_known, rd_Ent_fault, rd_Place_reg, rd_Place_n, rd_Place_secret, rd_Obs_kind, rd_Obs_at_, rd_Dir_kind, rd_Dir_n]
  simp only [and3]
  rw [wrap_small (pub + w) (by omega) (by omega), wrap_small (sec + w) (by omega) (by omega)]
  have h1 := tabR (Int.fdiv (kS l 1) 16 % 4).toNat (by omega)
  refine ⟨PreOk.mk (by dsimp only [c_mkk]; omega) rfl, by decide, ⟨by omega, by omega⟩, ⟨by omega, h1.2.1, h1.2.2⟩, ?_⟩
  obtain ⟨h2, _⟩ := h1
  revert h2
  generalize asInt (List.getD (rowAt _ (Int.fdiv (kS l 1) 16 % 4).toNat) 0 D.nilp) = kd
  intro h2
  have e1 := br11 w
  have e2 := br12 w
  have e3 := br21 w
  have e4 := br22 w
  have e5 := br10 w
  have e6 := br20 w
  obtain ⟨hw', g0, g1, g2, g3, gp, gs⟩ := hr
  rcases h2 with rfl | rfl | rfl
  all_goals
    repeat' first
      | refine br_not ?_
      | refine br_dec (fun _ => ?_) (fun _ => ?_)
      | refine br_beq (fun _ => ?_) (fun _ => ?_)
      | refine br_bne (fun _ => ?_) (fun _ => ?_)
      | refine br_holds (fun _ => ?_) (fun _ => ?_)
      | refine ⟨PreOk.mk ?_ rfl, ?_⟩
      | refine ⟨idx_ok _ _ _ rfl (by omega) (by omega), ?_⟩
      | refine ⟨okSh_ok _ _ _ (fun _ => rfl) (by omega) (by omega), ?_⟩
      | refine ⟨okSh_okD _ _ _ _ (fun _ => rfl) (by omega) (by omega), ?_⟩
      | refine ⟨aload_ok _ _ rfl (fun _ => rfl) (by omega) (by omega), ?_⟩
      | refine ⟨aload_okD _ _ _ rfl (fun _ => rfl) (by omega) (by omega), ?_⟩
      | refine ⟨astore_ok (by assumption) rfl (by omega) (by omega) (by decide), ?_⟩
      | refine ⟨app_ok (by assumption) rfl rfl (by simp only [List.length_cons, List.length_nil]; omega), ?_⟩
      | refine need_holds ?_ fun _ => ?_
      | refine all_holds fun y hy => ?_
      | refine ret_eq ?_
  all_goals try omega
  all_goals exact l_mk03 l w win r0 r1 _ _ _ ⟨by omega, by omega, by omega, by omega, by omega, by omega, by omega⟩ hwin (by omega) (by omega) (by omega) (by omega)
theorem l_mk01 (l : List Int) (w win r0 pub sec : Int) (hr : HRegs w r0 0 0 0) (hwin : 1 ≤ win ∧ win ≤ 3) (hp : pub = bitsR 1 w r0) (hs : sec = bitsR 2 w r0) (hp2 : 0 ≤ pub ∧ pub ≤ 2) (hs2 : 0 ≤ sec ∧ sec ≤ 2) : (a_make.at_ 0 (F_mk0 l w win r0 0 0 0 pub sec 1)).holds s_make.cx a_make.rs MkQ := by
  have hw := hr.hw
  refine at_of_round s_make_sound (m := 400) ?_
  rw [t_mk01]
  simp only [asRows_sl, asInt_int, asBool_bool, asStr_str, listOf_rowsOn, List.drop_zero, Prg.eta, Sta.eta, rowsOn_length, getD_drop, Nat.reduceAdd, rd_int, rd_PMem_name, rd_PMem_secret, rd_PMem_n, rd_PLabel_name, rd_PLabel_at_, rd_Ins_kind, rd_Ins_op, rd_Ins_d, rd_Ins_aR, rd_Ins_aN, rd_Ins_bR, rd_Ins_bN, rd_Ins_name, rd_Ins_target, rd_Ent_pc, rd_Ent_val, rd_Ent_addr, rd_Ent_fro, rd_Ent_next, rd_Ent_done, rd_Ent_known, rd_Ent_fault, rd_Place_reg, rd_Place_n, rd_Place_secret, rd_Obs_kind, rd_Obs_at_, rd_Dir_kind, rd_Dir_n]
  simp only [and3]
  rw [wrap_small (pub + w) (by omega) (by omega), wrap_small (sec + w) (by omega) (by omega)]
  have h1 := tabR (Int.fdiv (kS l 1) 4 % 4).toNat (by omega)
  refine ⟨PreOk.mk (by dsimp only [c_mkk]; omega) rfl, by decide, ⟨by omega, by omega⟩, ⟨by omega, h1.2.1, h1.2.2⟩, ?_⟩
  obtain ⟨h2, _⟩ := h1
  revert h2
  generalize asInt (List.getD (rowAt _ (Int.fdiv (kS l 1) 4 % 4).toNat) 0 D.nilp) = kd
  intro h2
  have e1 := br11 w
  have e2 := br12 w
  have e3 := br21 w
  have e4 := br22 w
  have e5 := br10 w
  have e6 := br20 w
  obtain ⟨hw', g0, g1, g2, g3, gp, gs⟩ := hr
  rcases h2 with rfl | rfl | rfl
  all_goals
    repeat' first
      | refine br_not ?_
      | refine br_dec (fun _ => ?_) (fun _ => ?_)
      | refine br_beq (fun _ => ?_) (fun _ => ?_)
      | refine br_bne (fun _ => ?_) (fun _ => ?_)
      | refine br_holds (fun _ => ?_) (fun _ => ?_)
      | refine ⟨PreOk.mk ?_ rfl, ?_⟩
      | refine ⟨idx_ok _ _ _ rfl (by omega) (by omega), ?_⟩
      | refine ⟨okSh_ok _ _ _ (fun _ => rfl) (by omega) (by omega), ?_⟩
      | refine ⟨okSh_okD _ _ _ _ (fun _ => rfl) (by omega) (by omega), ?_⟩
      | refine ⟨aload_ok _ _ rfl (fun _ => rfl) (by omega) (by omega), ?_⟩
      | refine ⟨aload_okD _ _ _ rfl (fun _ => rfl) (by omega) (by omega), ?_⟩
      | refine ⟨astore_ok (by assumption) rfl (by omega) (by omega) (by decide), ?_⟩
      | refine ⟨app_ok (by assumption) rfl rfl (by simp only [List.length_cons, List.length_nil]; omega), ?_⟩
      | refine need_holds ?_ fun _ => ?_
      | refine all_holds fun y hy => ?_
      | refine ret_eq ?_
  all_goals try omega
  all_goals exact l_mk02 l w win r0 _ _ _ ⟨by omega, by omega, by omega, by omega, by omega, by omega, by omega⟩ hwin (by omega) (by omega) (by omega) (by omega)
theorem l_mk00 (l : List Int) (w win pub sec : Int) (hr : HRegs w 0 0 0 0) (hwin : 1 ≤ win ∧ win ≤ 3) (hp : pub = 0) (hs : sec = 0) (hp2 : 0 ≤ pub ∧ pub ≤ 2) (hs2 : 0 ≤ sec ∧ sec ≤ 2) : (a_make.at_ 0 (F_mk0 l w win 0 0 0 0 pub sec 0)).holds s_make.cx a_make.rs MkQ := by
  have hw := hr.hw
  refine at_of_round s_make_sound (m := 400) ?_
  rw [t_mk00]
  simp only [asRows_sl, asInt_int, asBool_bool, asStr_str, listOf_rowsOn, List.drop_zero, Prg.eta, Sta.eta, rowsOn_length, getD_drop, Nat.reduceAdd, rd_int, rd_PMem_name, rd_PMem_secret, rd_PMem_n, rd_PLabel_name, rd_PLabel_at_, rd_Ins_kind, rd_Ins_op, rd_Ins_d, rd_Ins_aR, rd_Ins_aN, rd_Ins_bR, rd_Ins_bN, rd_Ins_name, rd_Ins_target, rd_Ent_pc, rd_Ent_val, rd_Ent_addr, rd_Ent_fro, rd_Ent_next, rd_Ent_done, rd_Ent_known, rd_Ent_fault, rd_Place_reg, rd_Place_n, rd_Place_secret, rd_Obs_kind, rd_Obs_at_, rd_Dir_kind, rd_Dir_n]
  simp only [and3]
  rw [wrap_small (pub + w) (by omega) (by omega), wrap_small (sec + w) (by omega) (by omega)]
  have h1 := tabR (Int.fdiv (kS l 1) 1 % 4).toNat (by omega)
  refine ⟨PreOk.mk (by dsimp only [c_mkk]; omega) rfl, by decide, ⟨by omega, by omega⟩, ⟨by omega, h1.2.1, h1.2.2⟩, ?_⟩
  obtain ⟨h2, _⟩ := h1
  revert h2
  generalize asInt (List.getD (rowAt _ (Int.fdiv (kS l 1) 1 % 4).toNat) 0 D.nilp) = kd
  intro h2
  have e1 := br11 w
  have e2 := br12 w
  have e3 := br21 w
  have e4 := br22 w
  have e5 := br10 w
  have e6 := br20 w
  obtain ⟨hw', g0, g1, g2, g3, gp, gs⟩ := hr
  rcases h2 with rfl | rfl | rfl
  all_goals
    repeat' first
      | refine br_not ?_
      | refine br_dec (fun _ => ?_) (fun _ => ?_)
      | refine br_beq (fun _ => ?_) (fun _ => ?_)
      | refine br_bne (fun _ => ?_) (fun _ => ?_)
      | refine br_holds (fun _ => ?_) (fun _ => ?_)
      | refine ⟨PreOk.mk ?_ rfl, ?_⟩
      | refine ⟨idx_ok _ _ _ rfl (by omega) (by omega), ?_⟩
      | refine ⟨okSh_ok _ _ _ (fun _ => rfl) (by omega) (by omega), ?_⟩
      | refine ⟨okSh_okD _ _ _ _ (fun _ => rfl) (by omega) (by omega), ?_⟩
      | refine ⟨aload_ok _ _ rfl (fun _ => rfl) (by omega) (by omega), ?_⟩
      | refine ⟨aload_okD _ _ _ rfl (fun _ => rfl) (by omega) (by omega), ?_⟩
      | refine ⟨astore_ok (by assumption) rfl (by omega) (by omega) (by decide), ?_⟩
      | refine ⟨app_ok (by assumption) rfl rfl (by simp only [List.length_cons, List.length_nil]; omega), ?_⟩
      | refine need_holds ?_ fun _ => ?_
      | refine all_holds fun y hy => ?_
      | refine ret_eq ?_
  all_goals try omega
  all_goals exact l_mk01 l w win _ _ _ ⟨by omega, by omega, by omega, by omega, by omega, by omega, by omega⟩ hwin (by omega) (by omega) (by omega) (by omega)
theorem x_make (l : List Int) : ∃ r, (MkQ) r ∧ ACalls Tryd.prog 6 [al l] r := by
  refine acalls_some s_make_sound (fn := Tryd.f6) (a := a_make) (nargs := 1) (tbl := [(5, [2, 3, 4, 5, 6, 7]), (21, [2, 3, 4, 8, 9, 3000256007000900007003, 3000256008000900008002, 3000256009000900009009]), (25, [2, 3, 4, 8, 10, 3000256007000900007003, 3000256008000900008002, 3000256009000900009009])]) (by kernel_rfl) (by kernel_rfl) rfl (m := 400) ?_
  show VC.holds _ _ _ (a_make.start s_make 400 [al l])
  rw [t_make]
  try simp only [asRows_sl, asInt_int, asBool_bool, asStr_str, listOf_rowsOn, List.drop_zero, Prg.eta, Sta.eta, rowsOn_length, getD_drop, Nat.reduceAdd, rd_int, rd_PMem_name, rd_PMem_secret, rd_PMem_n, rd_PLabel_name, rd_PLabel_at_, rd_Ins_kind, rd_Ins_op, rd_Ins_d, rd_Ins_aR, rd_Ins_aN, rd_Ins_bR, rd_Ins_bN, rd_Ins_name, rd_Ins_target, rd_Ent_pc, rd_Ent_val, rd_Ent_addr, rd_Ent_fro, rd_Ent_next, rd_Ent_done, rd_Ent_known, rd_Ent_fault, rd_Place_reg, rd_Place_n, rd_Place_secret, rd_Obs_kind, rd_Obs_at_, rd_Dir_kind, rd_Dir_n]
  simp only [tmod255]
  rw [show ∀ y : Int, bits .and .i64 y 1 = y % 2 from fun y => and1 y]
  rw [wrap_small (kS l 0 % 2 + 1) (by omega) (by omega), wrap_small (Int.fdiv (kS l 0) 2 % 256 % 3 + 1) (by omega) (by omega)]
  refine ⟨PreOk.mk (by dsimp only [c_mkk]; omega) rfl, PreOk.mk (by dsimp only [c_mkk]; omega) rfl, by decide, by decide, ?_⟩
  have e1 := br10 (kS l 0 % 2 + 1)
  have e2 := br20 (kS l 0 % 2 + 1)
  exact l_mk00 l _ _ _ _ ⟨by omega, by omega, by omega, by omega, by omega, by omega, by omega⟩ (by omega) rfl rfl (by omega) (by omega)
noncomputable def makeS (l : List Int) : Prg := pick fun p => WFM p ∧ ACalls Tryd.prog 6 [al l] (.agg (p.cells.map .d))
theorem makeS_spec (l : List Int) : WFM (makeS l) ∧ ACalls Tryd.prog 6 [al l] (.agg ((makeS l).cells.map .d)) := by
  obtain ⟨r, ⟨p, h1, rfl⟩, h2⟩ := x_make l
  exact pick_spec (Q := fun p => WFM p ∧ ACalls Tryd.prog 6 [al l] (.agg (p.cells.map .d))) ⟨p, h1, h2.data⟩
theorem WFM.mems' {p : Prg} (h : WFM p) : Mems p.mems := ⟨by have := h.mems.len; omega, fun m hm => by have := h.mems.n m hm; omega⟩
end Go.Proofs.YtmmlolampgnamaaDoor.Ax
end

section
/- States that are compared: slices.Equal, arch.Still, arch.Same, arch.Low. -/
namespace Go.Proofs.YtmmlolampgnamaaDoor.Ax
open Go.RowKit
set_option linter.unusedVariables false
set_option linter.unusedSimpArgs false
def rdLL : List A → List Int × List Int
  | [.c (.sl r), .c (.sl s)] => (listOf Int r, listOf Int s)
  | _ => default
theorem rb_le {b c : Bool} (h : b = c) : (rb b).le (rb c) := by subst h; exact rfl
def as_ (s : Sta) : A := .agg s.cells
def rdS : List A → Sta × Unit
  | [.agg l] => (Sta.of l, ())
  | _ => default
def rdSS : List A → Sta × Sta
  | [.agg l, .agg m] => (Sta.of l, Sta.of m)
  | _ => default
/-- A state that can be held. -/
def SmallS (s : Sta) : Prop := s.mem.length ≤ 1000000 ∧ s.stack.length ≤ 1000000
theorem Sta.eq_iff {a b : Sta} : a = b ↔ a.r0 = b.r0 ∧ a.r1 = b.r1 ∧ a.r2 = b.r2 ∧ a.r3 = b.r3 ∧ a.mem = b.mem ∧ a.stack = b.stack ∧ a.pc = b.pc := by
  obtain ⟨_, _, _, _, _, _, _⟩ := a
  obtain ⟨_, _, _, _, _, _, _⟩ := b
  simp
end Go.Proofs.YtmmlolampgnamaaDoor.Ax
end

section
/- Make's contract; augurylaw7.States. -/
namespace Go.Proofs.YtmmlolampgnamaaDoor.Ax
open Go.RowKit
set_option linter.unusedVariables false
set_option linter.unusedSimpArgs false
noncomputable def c_make : FT (List Int × Unit) := ⟨6, fun l => [al l.1], rdL, fun _ => True, fun l => .agg ((makeS l.1).cells.map .d), true, fun l => by simp [al, rdL]⟩
theorem c_make_good : c_make.fe.Good Tryd.prog := FT.good c_make ⟨Tryd.f6, by kernel_rfl, by decide +kernel, by kernel_rfl⟩ (fun _ => rfl) fun l _ => (makeS_spec l.1).2
def rdPLI : List A → Prg × List Int × Int
  | [.agg l, .c (.sl m), .c (.int _ i)] => (Prg.of l, listOf Int m, i)
  | _ => default
def rss (x : Sta × Sta) : RR := .tup [.inr x.1.fresh, .inr x.2.fresh]
/-- So many numbers, the first k of them told. -/
def toldS (n : Nat) (f : Nat → Int) (k : Nat) : List Int := (List.range n).map fun j => if j < k then f j else 0
theorem told_len (n : Nat) (f : Nat → Int) (k : Nat) : (toldS n f k).length = n := by simp [toldS]
theorem told_zero (n : Nat) (f : Nat → Int) : toldS n f 0 = List.replicate n 0 := by
  apply List.ext_getElem <;> simp [toldS]
theorem told_set (n : Nat) (f : Nat → Int) (k : Nat) : (toldS n f k).set k (f k) = toldS n f (k + 1) := by
  apply List.ext_getElem
  · simp [toldS]
  · intro i h1 h2
    simp only [toldS, List.getElem_set, List.getElem_map, List.getElem_range]
    by_cases h : k = i
    · subst h; simp
    · rw [if_neg h]
      by_cases h3 : i < k
      · rw [if_pos h3, if_pos (by omega)]
      · rw [if_neg h3, if_neg (by omega)]
theorem told_set2 (n : Nat) (f : Nat → Int) (k : Nat) (v : Int) : ((toldS n f k).set k v).set k (f k) = toldS n f (k + 1) := by rw [List.set_set, told_set]
theorem told_skip (n : Nat) (f : Nat → Int) (k : Nat) (h : f k = 0) : toldS n f k = toldS n f (k + 1) := by
  apply List.ext_getElem
  · simp [toldS]
  · intro i h1 h2
    simp only [toldS, List.getElem_map, List.getElem_range]
    by_cases h3 : k = i
    · subst h3; simp [h]
    · by_cases h4 : i < k
      · rw [if_pos h4, if_pos (by omega)]
      · rw [if_neg h4, if_neg (by omega)]
def padF (l : List Int) (j : Nat) : Int := if (j : Int) < l.length then rd l j else 0
def twinF (how : Int) (q : List Place) (l : List Int) (j : Nat) : Int := if (j : Int) < l.length then (if (rd q j).secret = true ∨ bits .and .i64 how 7 = 0 then Int.fdiv (rd l j) 16 else rd l j) else 0
def statesS (p : Prg) (l : List Int) (how : Int) : Sta × Sta := ((startS p (toldS (placesS p).length (padF l) (placesS p).length)).1, (startS p (toldS (placesS p).length (twinF how (placesS p) l) (placesS p).length)).1)
def c_states : FT (Prg × List Int × Int) := ⟨7, fun x => [ap x.1, al x.2.1, ai x.2.2], rdPLI, fun x => Mems x.1.mems, fun x => rss (statesS x.1 x.2.1 x.2.2), false, fun x => by simp [ap, al, ai, rdPLI]⟩
noncomputable def a_states : FnA := (fnA Tryd.prog Tryd.f7 3 [(4, [1, 2, 3, 6, 7, 8, 9, 10, 25, 26])]).getD ⟨0, .skip, [], []⟩
def s_states : Sp := spT [c_rPlaces.fe, c_rStart.fe]
theorem s_states_sound : s_states.sound Tryd.prog := spT_sound fun e he => by
  simp only [List.mem_cons, List.not_mem_nil, or_false] at he
  rcases he with rfl | rfl
  · exact c_rPlaces_good
  · exact c_rStart_good
def F_states (p : Prg) (l : List Int) (how : Int) (q : List Place) (X Y : List (List D)) (nx ny : Nat) (k : Int) : St := ⟨mkS 80 [(1, vr (rowsOn l)), (2, vi how), (3, vp 192), (6, vp 384), (7, vp 448), (8, vo 1088 (rowsOn q).length), (9, vo 1280 nx), (10, vo 1472 ny), (25, vi (rowsOn q).length), (26, vi k)],
  [(192, bx p.cells), (384, bc [.d (.int .i64 0), .d (.int .i64 0), .d (.int .i64 0), .d (.int .i64 0), .nil, .nil, .d (.int .i64 0)]), (448, bc [.d (.int .i64 0), .d (.int .i64 0), .d (.int .i64 0), .d (.int .i64 0), .nil, .nil, .d (.int .i64 0)]), (1088, ba 3 (rowsOn q)), (1280, ba 1 X), (1472, ba 1 Y)]⟩
set_option maxRecDepth 100000 in
theorem t_states (p : Prg) (l : List Int) (how : Int) : a_states.start s_states 400 [ap p, al l, ai how] =
(VC.need (PreOk c_rPlaces p [A.agg (Prg.cells p)])
(VC.need ((↑(List.length (rowsOn (placesS { w := p.w, window := p.window, fuel := p.fuel, r0 := p.r0, r1 := p.r1, r2 := p.r2, r3 := p.r3, mems := listOf PMem (rowsOn p.mems), labels := listOf PLabel (rowsOn p.labels), ins := listOf Ins (rowsOn p.ins) }))) : Int) = (↑(List.length (rowsOn (placesS { w := p.w, window := p.window, fuel := p.fuel, r0 := p.r0, r1 := p.r1, r2 := p.r2, r3 := p.r3, mems := listOf PMem (rowsOn p.mems), labels := listOf PLabel (rowsOn p.labels), ins := listOf Ins (rowsOn p.ins) }))) : Int) ∧ (0 : Int) ≤ (↑(List.length (rowsOn (placesS { w := p.w, window := p.window, fuel := p.fuel, r0 := p.r0, r1 := p.r1, r2 := p.r2, r3 := p.r3, mems := listOf PMem (rowsOn p.mems), labels := listOf PLabel (rowsOn p.labels), ins := listOf Ins (rowsOn p.ins) }))) : Int) ∧ (9 : Int) * (↑(List.length (rowsOn (placesS { w := p.w, window := p.window, fuel := p.fuel, r0 := p.r0, r1 := p.r1, r2 := p.r2, r3 := p.r3, mems := listOf PMem (rowsOn p.mems), labels := listOf PLabel (rowsOn p.labels), ins := listOf Ins (rowsOn p.ins) }))) : Int) ≤ (140737488355328 : Int))
(VC.need ((↑(List.length (rowsOn (placesS { w := p.w, window := p.window, fuel := p.fuel, r0 := p.r0, r1 := p.r1, r2 := p.r2, r3 := p.r3, mems := listOf PMem (rowsOn p.mems), labels := listOf PLabel (rowsOn p.labels), ins := listOf Ins (rowsOn p.ins) }))) : Int) = (↑(List.length (rowsOn (placesS { w := p.w, window := p.window, fuel := p.fuel, r0 := p.r0, r1 := p.r1, r2 := p.r2, r3 := p.r3, mems := listOf PMem (rowsOn p.mems), labels := listOf PLabel (rowsOn p.labels), ins := listOf Ins (rowsOn p.ins) }))) : Int) ∧ (0 : Int) ≤ (↑(List.length (rowsOn (placesS { w := p.w, window := p.window, fuel := p.fuel, r0 := p.r0, r1 := p.r1, r2 := p.r2, r3 := p.r3, mems := listOf PMem (rowsOn p.mems), labels := listOf PLabel (rowsOn p.labels), ins := listOf Ins (rowsOn p.ins) }))) : Int) ∧ (9 : Int) * (↑(List.length (rowsOn (placesS { w := p.w, window := p.window, fuel := p.fuel, r0 := p.r0, r1 := p.r1, r2 := p.r2, r3 := p.r3, mems := listOf PMem (rowsOn p.mems), labels := listOf PLabel (rowsOn p.labels), ins := listOf Ins (rowsOn p.ins) }))) : Int) ≤ (140737488355328 : Int))
(FnA.at_ a_states 0 (F_states p l how (placesS { w := p.w, window := p.window, fuel := p.fuel, r0 := p.r0, r1 := p.r1, r2 := p.r2, r3 := p.r3, mems := listOf PMem (rowsOn p.mems), labels := listOf PLabel (rowsOn p.labels), ins := listOf Ins (rowsOn p.ins) }) (List.replicate (Int.toNat (↑(List.length (rowsOn (placesS { w := p.w, window := p.window, fuel := p.fuel, r0 := p.r0, r1 := p.r1, r2 := p.r2, r3 := p.r3, mems := listOf PMem (rowsOn p.mems), labels := listOf PLabel (rowsOn p.labels), ins := listOf Ins (rowsOn p.ins) }))) : Int)) [D.int IntKind.i64 (0 : Int)]) (List.replicate (Int.toNat (↑(List.length (rowsOn (placesS { w := p.w, window := p.window, fuel := p.fuel, r0 := p.r0, r1 := p.r1, r2 := p.r2, r3 := p.r3, mems := listOf PMem (rowsOn p.mems), labels := listOf PLabel (rowsOn p.labels), ins := listOf Ins (rowsOn p.ins) }))) : Int)) [D.int IntKind.i64 (0 : Int)]) (Int.toNat (↑(List.length (rowsOn (placesS { w := p.w, window := p.window, fuel := p.fuel, r0 := p.r0, r1 := p.r1, r2 := p.r2, r3 := p.r3, mems := listOf PMem (rowsOn p.mems), labels := listOf PLabel (rowsOn p.labels), ins := listOf Ins (rowsOn p.ins) }))) : Int)) (Int.toNat (↑(List.length (rowsOn (placesS { w := p.w, window := p.window, fuel := p.fuel, r0 := p.r0, r1 := p.r1, r2 := p.r2, r3 := p.r3, mems := listOf PMem (rowsOn p.mems), labels := listOf PLabel (rowsOn p.labels), ins := listOf Ins (rowsOn p.ins) }))) : Int)) (0 : Int)))))) := by kernel_rfl
set_option maxRecDepth 100000 in
theorem t_states0 (p : Prg) (l : List Int) (how : Int) (q : List Place) (X Y : List (List D)) (nx ny : Nat) (k : Int) : a_states.round s_states 400 0 (F_states p l how q X Y nx ny k) =
(VC.br (decide (k < (↑(List.length (rowsOn q)) : Int)))
 (VC.br (decide (k < (↑(List.length (rowsOn l)) : Int)))
  (VC.need ((0 : Int) ≤ k ∧ k < (↑(List.length (rowsOn l)) : Int) ∧ List.length (rowAt (rowsOn l) (Int.toNat k)) = (1 : Nat))
  (VC.need (okSh [Kd.int IntKind.i64] (rowAt (rowsOn l) (Int.toNat k)))
  (VC.need ((0 : Int) ≤ k ∧ k < (↑(List.length (rowsOn l)) : Int) ∧ List.length (rowAt (rowsOn l) (Int.toNat k)) = (1 : Nat))
  (VC.need (okSh [Kd.int IntKind.i64] (rowAt (rowsOn l) (Int.toNat k)))
  (VC.need ((0 : Int) ≤ k ∧ k < (↑nx : Int))
  (VC.need (Int.toNat k < List.length X ∧ List.length (rowAt X (Int.toNat k)) = (1 : Nat) ∧ (1 : Nat) ≤ (1 : Nat))
  (VC.need ((0 : Int) ≤ k ∧ k < (↑ny : Int))
  (VC.need (Int.toNat k < List.length Y ∧ List.length (rowAt Y (Int.toNat k)) = (1 : Nat) ∧ (1 : Nat) ≤ (1 : Nat))
  (VC.need ((0 : Int) ≤ k ∧ k < (↑(List.length (rowsOn q)) : Int))
  (VC.need (Int.toNat k < List.length (rowsOn q) ∧ List.length (rowAt (rowsOn q) (Int.toNat k)) = (3 : Nat) ∧ okSh [Kd.bool] (List.drop (2 : Nat) (rowAt (rowsOn q) (Int.toNat k))))
  (VC.br (asBool (List.getD (List.drop (2 : Nat) (rowAt (rowsOn q) (Int.toNat k))) (0 : Nat) D.nilp))
   (VC.need ((0 : Int) ≤ k ∧ k < (↑(List.length (rowsOn l)) : Int) ∧ List.length (rowAt (rowsOn l) (Int.toNat k)) = (1 : Nat))
   (VC.need (okSh [Kd.int IntKind.i64] (rowAt (rowsOn l) (Int.toNat k)))
   (VC.need ((0 : Int) ≤ (4 : Int))
   (VC.need ((0 : Int) ≤ k ∧ k < (↑ny : Int))
   (VC.need (Int.toNat k < List.length (List.set Y (Int.toNat k) (splice (rowAt Y (Int.toNat k)) (0 : Nat) [D.int IntKind.i64 (asInt (List.getD (rowAt (rowsOn l) (Int.toNat k)) (0 : Nat) D.nilp))])) ∧ List.length (rowAt (List.set Y (Int.toNat k) (splice (rowAt Y (Int.toNat k)) (0 : Nat) [D.int IntKind.i64 (asInt (List.getD (rowAt (rowsOn l) (Int.toNat k)) (0 : Nat) D.nilp))])) (Int.toNat k)) = (1 : Nat) ∧ (1 : Nat) ≤ (1 : Nat))
   (FnA.at_ a_states 0 (F_states p l how q (List.set X (Int.toNat k) (splice (rowAt X (Int.toNat k)) (0 : Nat) [D.int IntKind.i64 (asInt (List.getD (rowAt (rowsOn l) (Int.toNat k)) (0 : Nat) D.nilp))])) (List.set (List.set Y (Int.toNat k) (splice (rowAt Y (Int.toNat k)) (0 : Nat) [D.int IntKind.i64 (asInt (List.getD (rowAt (rowsOn l) (Int.toNat k)) (0 : Nat) D.nilp))])) (Int.toNat k) (splice (rowAt (List.set Y (Int.toNat k) (splice (rowAt Y (Int.toNat k)) (0 : Nat) [D.int IntKind.i64 (asInt (List.getD (rowAt (rowsOn l) (Int.toNat k)) (0 : Nat) D.nilp))])) (Int.toNat k)) (0 : Nat) [D.int IntKind.i64 (Int.fdiv (asInt (List.getD (rowAt (rowsOn l) (Int.toNat k)) (0 : Nat) D.nilp)) (16 : Int))])) nx ny (IntKind.wrap IntKind.i64 (k + (1 : Int))))))))))
   (VC.br (bits BinOp.and IntKind.i64 how (7 : Int) == (0 : Int))
    (VC.need ((0 : Int) ≤ k ∧ k < (↑(List.length (rowsOn l)) : Int) ∧ List.length (rowAt (rowsOn l) (Int.toNat k)) = (1 : Nat))
    (VC.need (okSh [Kd.int IntKind.i64] (rowAt (rowsOn l) (Int.toNat k)))
    (VC.need ((0 : Int) ≤ (4 : Int))
    (VC.need ((0 : Int) ≤ k ∧ k < (↑ny : Int))
    (VC.need (Int.toNat k < List.length (List.set Y (Int.toNat k) (splice (rowAt Y (Int.toNat k)) (0 : Nat) [D.int IntKind.i64 (asInt (List.getD (rowAt (rowsOn l) (Int.toNat k)) (0 : Nat) D.nilp))])) ∧ List.length (rowAt (List.set Y (Int.toNat k) (splice (rowAt Y (Int.toNat k)) (0 : Nat) [D.int IntKind.i64 (asInt (List.getD (rowAt (rowsOn l) (Int.toNat k)) (0 : Nat) D.nilp))])) (Int.toNat k)) = (1 : Nat) ∧ (1 : Nat) ≤ (1 : Nat))
    (FnA.at_ a_states 0 (F_states p l how q (List.set X (Int.toNat k) (splice (rowAt X (Int.toNat k)) (0 : Nat) [D.int IntKind.i64 (asInt (List.getD (rowAt (rowsOn l) (Int.toNat k)) (0 : Nat) D.nilp))])) (List.set (List.set Y (Int.toNat k) (splice (rowAt Y (Int.toNat k)) (0 : Nat) [D.int IntKind.i64 (asInt (List.getD (rowAt (rowsOn l) (Int.toNat k)) (0 : Nat) D.nilp))])) (Int.toNat k) (splice (rowAt (List.set Y (Int.toNat k) (splice (rowAt Y (Int.toNat k)) (0 : Nat) [D.int IntKind.i64 (asInt (List.getD (rowAt (rowsOn l) (Int.toNat k)) (0 : Nat) D.nilp))])) (Int.toNat k)) (0 : Nat) [D.int IntKind.i64 (Int.fdiv (asInt (List.getD (rowAt (rowsOn l) (Int.toNat k)) (0 : Nat) D.nilp)) (16 : Int))])) nx ny (IntKind.wrap IntKind.i64 (k + (1 : Int))))))))))
    (FnA.at_ a_states 0 (F_states p l how q (List.set X (Int.toNat k) (splice (rowAt X (Int.toNat k)) (0 : Nat) [D.int IntKind.i64 (asInt (List.getD (rowAt (rowsOn l) (Int.toNat k)) (0 : Nat) D.nilp))])) (List.set Y (Int.toNat k) (splice (rowAt Y (Int.toNat k)) (0 : Nat) [D.int IntKind.i64 (asInt (List.getD (rowAt (rowsOn l) (Int.toNat k)) (0 : Nat) D.nilp))])) nx ny (IntKind.wrap IntKind.i64 (k + (1 : Int)))))))))))))))))
  (FnA.at_ a_states 0 (F_states p l how q X Y nx ny (IntKind.wrap IntKind.i64 (k + (1 : Int))))))
 (VC.need (PreOk c_rStart (Prg.of (Prg.cells p), listOf Int X) [A.agg (Prg.cells p), A.c (D.sl X)])
 (VC.need (PreOk c_rStart (Prg.of (Prg.cells p), listOf Int Y) [A.agg (Prg.cells p), A.c (D.sl Y)])
 (VC.ret (some (RR.tup [Sum.inr [Rc.d (D.int IntKind.i64 (startS (Prg.of (Prg.cells p)) (listOf Int X)).fst.r0), Rc.d (D.int IntKind.i64 (startS (Prg.of (Prg.cells p)) (listOf Int X)).fst.r1), Rc.d (D.int IntKind.i64 (startS (Prg.of (Prg.cells p)) (listOf Int X)).fst.r2), Rc.d (D.int IntKind.i64 (startS (Prg.of (Prg.cells p)) (listOf Int X)).fst.r3), Rc.new (1 : Nat) (rowsOn (startS (Prg.of (Prg.cells p)) (listOf Int X)).fst.mem), Rc.new (1 : Nat) (rowsOn (startS (Prg.of (Prg.cells p)) (listOf Int X)).fst.stack), Rc.d (D.int IntKind.i64 (startS (Prg.of (Prg.cells p)) (listOf Int X)).fst.pc)], Sum.inr [Rc.d (D.int IntKind.i64 (startS (Prg.of (Prg.cells p)) (listOf Int Y)).fst.r0), Rc.d (D.int IntKind.i64 (startS (Prg.of (Prg.cells p)) (listOf Int Y)).fst.r1), Rc.d (D.int IntKind.i64 (startS (Prg.of (Prg.cells p)) (listOf Int Y)).fst.r2), Rc.d (D.int IntKind.i64 (startS (Prg.of (Prg.cells p)) (listOf Int Y)).fst.r3), Rc.new (1 : Nat) (rowsOn (startS (Prg.of (Prg.cells p)) (listOf Int Y)).fst.mem), Rc.new (1 : Nat) (rowsOn (startS (Prg.of (Prg.cells p)) (listOf Int Y)).fst.stack), Rc.d (D.int IntKind.i64 (startS (Prg.of (Prg.cells p)) (listOf Int Y)).fst.pc)]])))))) := by kernel_rfl
theorem l_states0 (p : Prg) (l : List Int) (how : Int) (q : List Place) (hm : Mems p.mems) (hq : q = placesS p) (hl : q.length ≤ 10000) : ∀ i_ : Int × List (List D) × List (List D) × Nat × Nat, (fun (i : Int × List (List D) × List (List D) × Nat × Nat) => 0 ≤ i.1 ∧ i.1 ≤ q.length ∧ OnL i.2.1 i.2.2.2.1 (toldS q.length (padF l) i.1.toNat) ∧ OnL i.2.2.1 i.2.2.2.2 (toldS q.length (twinF how q l) i.1.toNat)) i_ → (a_states.at_ 0 ((fun (i : Int × List (List D) × List (List D) × Nat × Nat) => F_states p l how q i.2.1 i.2.2.1 i.2.2.2.1 i.2.2.2.2 i.1) i_)).holds s_states.cx a_states.rs (fun r => r.le (rss (statesS p l how))) := by
  refine loop_rule (a := a_states) (j := 0) (m := 400) s_states_sound (fun (i : Int × List (List D) × List (List D) × Nat × Nat) => F_states p l how q i.2.1 i.2.2.1 i.2.2.2.1 i.2.2.2.2 i.1) (fun (i : Int × List (List D) × List (List D) × Nat × Nat) => 0 ≤ i.1 ∧ i.1 ≤ q.length ∧ OnL i.2.1 i.2.2.2.1 (toldS q.length (padF l) i.1.toNat) ∧ OnL i.2.2.1 i.2.2.2.2 (toldS q.length (twinF how q l) i.1.toNat)) (fun (i : Int × List (List D) × List (List D) × Nat × Nat) => ((q.length : Int) - i.1).toNat) ?_
  rintro ⟨k, X, Y, nx, ny⟩ h_inv ih
  try dsimp only at h_inv
  replace ih := fun (v0 : Int) (v1 : List (List D)) (v2 : List (List D)) (v3 : Nat) (v4 : Nat) => ih (v0, v1, v2, v3, v4)
  try dsimp only at ih
  show VC.holds _ _ _ (a_states.round s_states 400 0 (F_states p l how q X Y nx ny k))
  rw [t_states0]
  try simp only [asRows_sl, asInt_int, asBool_bool, asStr_str, listOf_rowsOn, List.drop_zero, Prg.eta, Sta.eta, rowsOn_length, getD_drop, Nat.reduceAdd, rd_int, rd_PMem_name, rd_PMem_secret, rd_PMem_n, rd_PLabel_name, rd_PLabel_at_, rd_Ins_kind, rd_Ins_op, rd_Ins_d, rd_Ins_aR, rd_Ins_aN, rd_Ins_bR, rd_Ins_bN, rd_Ins_name, rd_Ins_target, rd_Ent_pc, rd_Ent_val, rd_Ent_addr, rd_Ent_fro, rd_Ent_next, rd_Ent_done, rd_Ent_known, rd_Ent_fault, rd_Place_reg, rd_Place_n, rd_Place_secret, rd_Obs_kind, rd_Obs_at_, rd_Dir_kind, rd_Dir_n]
  obtain ⟨h0, h1, h2, h3⟩ := h_inv
  have w1 : IntKind.wrap .i64 (k + 1) = k + 1 := wrap_small _ (by omega) (by omega)
  rw [w1]
  have l2 := h2.2
  have l3 := h3.2
  rw [told_len] at l2 l3
  repeat' first
    | refine br_not ?_
    | refine br_dec (fun _ => ?_) (fun _ => ?_)
    | refine br_beq (fun _ => ?_) (fun _ => ?_)
    | refine br_bne (fun _ => ?_) (fun _ => ?_)
    | refine br_holds (fun _ => ?_) (fun _ => ?_)
    | refine ⟨PreOk.mk ?_ rfl, ?_⟩
    | refine ⟨idx_ok _ _ _ rfl (by omega) (by omega), ?_⟩
    | refine ⟨okSh_ok _ _ _ (fun _ => rfl) (by omega) (by omega), ?_⟩
    | refine ⟨okSh_okD _ _ _ _ (fun _ => rfl) (by omega) (by omega), ?_⟩
    | refine ⟨aload_ok _ _ rfl (fun _ => rfl) (by omega) (by omega), ?_⟩
    | refine ⟨aload_okD _ _ _ rfl (fun _ => rfl) (by omega) (by omega), ?_⟩
    | refine ⟨astore_ok (by assumption) rfl (by omega) (by omega) (by decide), ?_⟩
    | refine ⟨app_ok (by assumption) rfl rfl (by simp only [List.length_cons, List.length_nil]; omega), ?_⟩
    | refine need_holds ?_ fun _ => ?_
    | refine all_holds fun y hy => ?_
    | refine ret_le ?_
    | refine ih _ _ _ _ _ ?_ ?_
  all_goals try omega
  all_goals try have hk : k < q.length := by assumption
  all_goals have m2 := told_len q.length (padF l) k.toNat
  all_goals have m3 := told_len q.length (twinF how q l) k.toNat
  all_goals have m4 : ((toldS q.length (twinF how q l) k.toNat).set k.toNat (rd l k)).length = q.length := by simpa using m3
  all_goals try exact astore_ok h2 rfl (by omega) (by omega) (by decide)
  all_goals try exact astore_ok h3 rfl (by omega) (by omega) (by decide)
  all_goals try exact astore_ok (h3.set (by omega) (by omega) (rd l k)) rfl (by omega) (by omega) (by decide)
  all_goals have ek : (k + 1).toNat = k.toNat + 1 := by omega
  all_goals have ek' : ((k.toNat : Nat) : Int) = k := by omega
  all_goals try have pf : padF l k.toNat = rd l k := by unfold padF; rw [ek', if_pos ‹_›]
  · have tf : twinF how q l k.toNat = Int.fdiv (rd l k) 16 := by unfold twinF; rw [ek', if_pos ‹_›, if_pos (Or.inl ‹_›)]
    have g2 := h2.set h0 (by omega) (rd l k)
    have g3 := (h3.set h0 (by omega) (rd l k)).set h0 (by omega) (Int.fdiv (rd l k) 16)
    rw [← pf, told_set] at g2
    rw [← tf, told_set2] at g3
    rw [ek]
    exact ⟨by omega, by omega, by rw [← pf]; exact g2, by rw [← tf]; exact g3⟩
  · have tf : twinF how q l k.toNat = Int.fdiv (rd l k) 16 := by unfold twinF; rw [ek', if_pos ‹_›, if_pos (Or.inr ‹_›)]
    have g2 := h2.set h0 (by omega) (rd l k)
    have g3 := (h3.set h0 (by omega) (rd l k)).set h0 (by omega) (Int.fdiv (rd l k) 16)
    rw [← pf, told_set] at g2
    rw [← tf, told_set2] at g3
    rw [ek]
    exact ⟨by omega, by omega, by rw [← pf]; exact g2, by rw [← tf]; exact g3⟩
  · have tf : twinF how q l k.toNat = rd l k := by unfold twinF; rw [ek', if_pos ‹_›, if_neg (by rintro (h | h) <;> simp_all)]
    have g2 := h2.set h0 (by omega) (rd l k)
    have g3 := h3.set h0 (by omega) (rd l k)
    rw [← pf, told_set] at g2
    rw [← tf, told_set] at g3
    rw [ek]
    exact ⟨by omega, by omega, by rw [← pf]; exact g2, by rw [← tf]; exact g3⟩
  · have hn : ¬ ((k.toNat : Nat) : Int) < l.length := by omega
    rw [ek, ← told_skip _ _ _ (show padF l k.toNat = 0 from if_neg hn), ← told_skip _ _ _ (show twinF how q l k.toNat = 0 from if_neg hn)]
    exact ⟨by omega, by omega, h2, h3⟩
  · obtain ⟨rfl, rfl⟩ := h2
    simp only [listOf_rowsOn, Prg.of_cells]
    exact PreOk.mk hm rfl
  · obtain ⟨rfl, rfl⟩ := h3
    simp only [listOf_rowsOn, Prg.of_cells]
    exact PreOk.mk hm rfl
  · obtain ⟨rfl, rfl⟩ := h2
    obtain ⟨rfl, rfl⟩ := h3
    have hk : k.toNat = q.length := by omega
    subst hq
    rw [hk]
    simp only [listOf_rowsOn, Prg.of_cells]
    exact RR.le_refl _
theorem c_states_good : c_states.fe.Good Tryd.prog := by
  refine FT.good c_states ⟨Tryd.f7, by kernel_rfl, by decide +kernel, by kernel_rfl⟩ (fun ⟨p, l, how⟩ => by first | rfl | simp [c_states, rrRef, rnewI, rnewE, rstab, rplaces, ri, rb, rib, rss, Sta.fresh]) fun ⟨p, l, how⟩ hp => ?_
  refine acalls_le s_states_sound (fn := Tryd.f7) (a := a_states) (nargs := 3) (tbl := [(4, [1, 2, 3, 6, 7, 8, 9, 10, 25, 26])]) (by kernel_rfl) (by kernel_rfl) rfl (m := 400) ?_
  show VC.holds _ _ _ (a_states.start s_states 400 [ap p, al l, ai how])
  rw [t_states]
  try simp only [asRows_sl, asInt_int, asBool_bool, asStr_str, listOf_rowsOn, List.drop_zero, Prg.eta, Sta.eta, rowsOn_length, getD_drop, Nat.reduceAdd, rd_int, rd_PMem_name, rd_PMem_secret, rd_PMem_n, rd_PLabel_name, rd_PLabel_at_, rd_Ins_kind, rd_Ins_op, rd_Ins_d, rd_Ins_aR, rd_Ins_aN, rd_Ins_bR, rd_Ins_bN, rd_Ins_name, rd_Ins_target, rd_Ent_pc, rd_Ent_val, rd_Ent_addr, rd_Ent_fro, rd_Ent_next, rd_Ent_done, rd_Ent_known, rd_Ent_fault, rd_Place_reg, rd_Place_n, rd_Place_secret, rd_Obs_kind, rd_Obs_at_, rd_Dir_kind, rd_Dir_n]
  try simp only [c_states] at hp
  have hm : Mems p.mems := hp
  have hpl := places_len p hm
  have e : c_states.ans (p, l, how) = rss (statesS p l how) := rfl
  rw [e]
  repeat' first
    | refine br_not ?_
    | refine br_dec (fun _ => ?_) (fun _ => ?_)
    | refine br_beq (fun _ => ?_) (fun _ => ?_)
    | refine br_bne (fun _ => ?_) (fun _ => ?_)
    | refine br_holds (fun _ => ?_) (fun _ => ?_)
    | refine ⟨PreOk.mk ?_ rfl, ?_⟩
    | refine ⟨idx_ok _ _ _ rfl (by omega) (by omega), ?_⟩
    | refine ⟨okSh_ok _ _ _ (fun _ => rfl) (by omega) (by omega), ?_⟩
    | refine ⟨okSh_okD _ _ _ _ (fun _ => rfl) (by omega) (by omega), ?_⟩
    | refine ⟨aload_ok _ _ rfl (fun _ => rfl) (by omega) (by omega), ?_⟩
    | refine ⟨aload_okD _ _ _ rfl (fun _ => rfl) (by omega) (by omega), ?_⟩
    | refine ⟨astore_ok (by assumption) rfl (by omega) (by omega) (by decide), ?_⟩
    | refine ⟨app_ok (by assumption) rfl rfl (by simp only [List.length_cons, List.length_nil]; omega), ?_⟩
    | refine need_holds ?_ fun _ => ?_
    | refine all_holds fun y hy => ?_
    | refine ret_le ?_
  · exact hm
  · exact ⟨trivial, by omega, by omega⟩
  · exact ⟨trivial, by omega, by omega⟩
  · have er : ∀ n : Nat, (List.replicate n [D.int IntKind.i64 0]) = rowsOn (List.replicate n (0 : Int)) := fun n => (OnL.rep n (0 : Int)).1
    rw [Int.toNat_natCast]
    refine l_states0 p l how (placesS p) hm rfl (by omega) (0, _, _, _, _) ⟨by simp, by simp, ?_, ?_⟩
    · rw [show Int.toNat 0 = 0 from rfl, told_zero]; exact OnL.rep _ (0 : Int)
    · rw [show Int.toNat 0 = 0 from rfl, told_zero]; exact OnL.rep _ (0 : Int)
end Go.Proofs.YtmmlolampgnamaaDoor.Ax
end

section
/- The signs of a line, in plain words. -/
namespace Go.Proofs.YtmmlolampgnamaaDoor.Ax
open Go.RowKit
set_option linter.unusedVariables false

structure Rn where
  v : Int
  deriving Inhabited, DecidableEq
instance : Row Rn := ⟨fun r => [.int .i32 r.v], fun r => ⟨asInt (r.getD 0 .nilp)⟩, fun _ => rfl, 1, fun _ => rfl⟩
instance : NoRef Rn := ⟨fun _ => rfl⟩
@[simp] theorem rd_Rn_v (l : List Rn) (i : Int) : asInt (List.getD (rowAt (rowsOn l) (Int.toNat i)) 0 .nilp) = (rd l i).v := congrArg Rn.v (of_rowAt l i)
structure Tok where
  kind : Int
  text : ByteArray
  n : Int
  at_ : Int
  deriving Inhabited, DecidableEq
instance : Row Tok := ⟨fun t => [.int .i64 t.kind, .str t.text, .int .i64 t.n, .int .i64 t.at_], fun r => ⟨asInt (r.getD 0 .nilp), asStr (r.getD 1 .nilp), asInt (r.getD 2 .nilp), asInt (r.getD 3 .nilp)⟩, fun _ => rfl, 4, fun _ => rfl⟩
instance : NoRef Tok := ⟨fun _ => rfl⟩
@[simp] theorem rd_Tok_kind (l : List Tok) (i : Int) : asInt (List.getD (rowAt (rowsOn l) (Int.toNat i)) 0 .nilp) = (rd l i).kind := congrArg Tok.kind (of_rowAt l i)
@[simp] theorem rd_Tok_text (l : List Tok) (i : Int) : asStr (List.getD (rowAt (rowsOn l) (Int.toNat i)) 1 .nilp) = (rd l i).text := congrArg Tok.text (of_rowAt l i)
@[simp] theorem rd_Tok_n (l : List Tok) (i : Int) : asInt (List.getD (rowAt (rowsOn l) (Int.toNat i)) 2 .nilp) = (rd l i).n := congrArg Tok.n (of_rowAt l i)
@[simp] theorem rd_Tok_at_ (l : List Tok) (i : Int) : asInt (List.getD (rowAt (rowsOn l) (Int.toNat i)) 3 .nilp) = (rd l i).at_ := congrArg Tok.at_ (of_rowAt l i)

/-! ### Runes -/
def runesF (s : ByteArray) : Nat → Nat → List Rn
  | 0, _ => []
  | f + 1, i => if i < s.size then ⟨((Utf8.decode s i).1 : Int)⟩ :: runesF s f (i + (Utf8.decode s i).2) else []
def runesS (s : ByteArray) : List Rn := runesF s s.size 0
theorem decode_pos (s : ByteArray) (i : Nat) : 1 ≤ (Utf8.decode s i).2 := by
  unfold Utf8.decode
  dsimp only
  repeat' split
  all_goals exact Nat.succ_le_succ (Nat.zero_le _)
/-- Enough rounds are enough. -/
theorem runesF_more (s : ByteArray) : ∀ (f g i : Nat), s.size ≤ i + f → s.size ≤ i + g → runesF s f i = runesF s g i
  | 0, 0, _, _, _ => rfl
  | 0, g + 1, i, h, _ => by unfold runesF; rw [if_neg (by omega)]
  | f + 1, 0, i, _, h => by unfold runesF; rw [if_neg (by omega)]
  | f + 1, g + 1, i, h1, h2 => by
    have := decode_pos s i
    unfold runesF
    by_cases h : i < s.size
    · rw [if_pos h, if_pos h, runesF_more s f g _ (by omega) (by omega)]
    · rw [if_neg h, if_neg h]
/-- What comes from a place on. -/
def runesAt (s : ByteArray) (i : Nat) : List Rn := runesF s s.size i
theorem runesAt_lt (s : ByteArray) (i : Nat) (h : i < s.size) : runesAt s i = ⟨((Utf8.decode s i).1 : Int)⟩ :: runesAt s (i + (Utf8.decode s i).2) := by
  unfold runesAt
  have e : runesF s s.size i = runesF s (s.size + 1) i := runesF_more s _ _ _ (by omega) (by omega)
  rw [e]
  show (if i < s.size then _ else _) = _
  rw [if_pos h]
theorem runesAt_ge (s : ByteArray) (i : Nat) (h : s.size ≤ i) : runesAt s i = [] := by
  unfold runesAt
  cases s.size with
  | zero => rfl
  | succ n => unfold runesF; rw [if_neg (by omega)]
theorem runesF_len (s : ByteArray) : ∀ (f i : Nat), (runesF s f i).length ≤ s.size - i
  | 0, i => by simp [runesF]
  | f + 1, i => by
    have := decode_pos s i
    have ih := runesF_len s f (i + (Utf8.decode s i).2)
    unfold runesF
    split
    · simp only [List.length_cons]; omega
    · simp
theorem runesS_len (s : ByteArray) : (runesS s).length ≤ s.size := runesF_len s s.size 0
/-! ### Signs -/
def isLet (v : Int) : Bool := decide (97 ≤ v) && decide (v ≤ 122)
def isDig (v : Int) : Bool := decide (48 ≤ v) && decide (v ≤ 57)
def isNm (v : Int) : Bool := isLet v || isDig v
/-- Digits, so many at most: what they say, how many they are. -/
def digF : List Rn → Nat → Int → Int × Nat
  | c :: l, m + 1, n => if isDig c.v = true then ((digF l m (10 * n + (c.v - 48))).1, (digF l m (10 * n + (c.v - 48))).2 + 1) else (n, 0)
  | _, _, n => (n, 0)
def numL (l : List Rn) (most : Nat) : Option (Int × Nat) := match l with
  | [] => none
  | c :: _ => if isDig c.v = true then (if c.v = 48 then some (0, 1) else some (digF l most 0)) else none
def numS (l : List Rn) (at_ : Int) (most : Nat) : Int × Int × Bool := match numL (l.drop at_.toNat) most with
  | some (n, k) => (n, at_ + k, true)
  | none => (0, at_, false)
def aloneL : List Rn → Bool
  | [] => true
  | c :: _ => !isNm c.v
theorem wrap_small32 (x : Int) (h1 : -2147483648 ≤ x) (h2 : x ≤ 2147483647) : IntKind.wrap .i32 x = x := by
  simp only [IntKind.wrap, IntKind.bits, IntKind.signed]
  try simp
  try omega
theorem isDig_iff {v : Int} : isDig v = true ↔ 48 ≤ v ∧ v ≤ 57 := by unfold isDig; simp
/-- From a place on: what stands there, and what comes behind. -/
theorem drop_rn (l : List Rn) (i : Int) (h0 : 0 ≤ i) (h : i < l.length) : l.drop i.toNat = rd l i :: l.drop (i + 1).toNat := drop_rd l i h0 h
theorem take_rn {α : Type} [Row α] (l : List α) (k : Int) (h0 : 0 ≤ k) (h : k < l.length) : l.take (k + 1).toNat = l.take k.toNat ++ [rd l k] := by
  rw [show (k + 1).toNat = k.toNat + 1 by omega, List.take_add_one, List.getElem?_eq_getElem (by omega)]
  unfold rd
  rw [List.getD_eq_getElem?_getD, List.getElem?_eq_getElem (by omega)]
  rfl
theorem drop_end {α : Type} (l : List α) (i : Int) (h : (l.length : Int) ≤ i) : l.drop i.toNat = [] := List.drop_of_length_le (by omega)
theorem digF_len : ∀ (l : List Rn) (m : Nat) (n : Int), (digF l m n).2 ≤ l.length ∧ (digF l m n).2 ≤ m
  | [], m, n => by cases m <;> simp [digF]
  | c :: l, 0, n => by simp [digF]
  | c :: l, m + 1, n => by
    have ih := digF_len l m (10 * n + (c.v - 48))
    unfold digF
    split
    · simp only [List.length_cons]; omega
    · simp
theorem digF_stop {c : Rn} (h : ¬ isDig c.v = true) (l : List Rn) (m : Nat) (n : Int) : digF (c :: l) m n = (n, 0) := by
  cases m with
  | zero => rfl
  | succ m => unfold digF; rw [if_neg h]
end Go.Proofs.YtmmlolampgnamaaDoor.Ax
end

section
/- Runes of bytes, one behind the other. -/
namespace Go.Proofs.YtmmlolampgnamaaDoor.Ax
open Go.RowKit
set_option linter.unusedVariables false

/-- The same as Utf8.decode at a place, of the bytes from there on. -/
def decodeL (l : List UInt8) : Nat × Nat :=
  let at' (k : Nat) : Nat := (l.getD k 0).toNat
  let cont (k : Nat) : Bool := k < l.length && at' k / 64 == 2
  let b0 := at' 0
  if b0 < 0x80 then (b0, 1)
  else if b0 / 32 == 6 && cont 1 then
    let c := (b0 % 32) * 64 + at' 1 % 64
    if c ≥ 0x80 then (c, 2) else (Utf8.runeError, 1)
  else if b0 / 16 == 14 && cont 1 && cont 2 then
    let c := (b0 % 16) * 4096 + (at' 1 % 64) * 64 + at' 2 % 64
    if c ≥ 0x800 && Utf8.valid c then (c, 3) else (Utf8.runeError, 1)
  else if b0 / 8 == 30 && cont 1 && cont 2 && cont 3 then
    let c := (b0 % 8) * 262144 + (at' 1 % 64) * 4096 + (at' 2 % 64) * 64 + at' 3 % 64
    if c ≥ 0x10000 && Utf8.valid c then (c, 4) else (Utf8.runeError, 1)
  else (Utf8.runeError, 1)
theorem get_drop (s : ByteArray) (i k : Nat) : s.get! (i + k) = (s.data.toList.drop i).getD k 0 := by
  rw [List.getD_eq_getElem?_getD, List.getElem?_drop, Array.getElem?_toList]
  show s.data[i + k]! = _
  rw [getElem!_def]
  cases s.data[i + k]? <;> rfl
theorem decode_L (s : ByteArray) (i : Nat) (h : i ≤ s.size) : Utf8.decode s i = decodeL (s.data.toList.drop i) := by
  have e : ∀ k, decide (i + k < s.size) = decide (k < (s.data.toList.drop i).length) := fun k => by
    have : (s.data.toList.drop i).length = s.size - i := by rw [List.length_drop]; rfl
    rw [this]
    exact decide_eq_decide.2 (by omega)
  unfold Utf8.decode decodeL
  simp only [get_drop, e]
def runesL : Nat → List UInt8 → List Rn
  | 0, _ => []
  | _ + 1, [] => []
  | f + 1, b :: l => ⟨((decodeL (b :: l)).1 : Int)⟩ :: runesL f ((b :: l).drop (decodeL (b :: l)).2)
theorem runesF_L (s : ByteArray) : ∀ (f i : Nat), i ≤ s.size → runesF s f i = runesL f (s.data.toList.drop i)
  | 0, _, _ => rfl
  | f + 1, i, h => by
    have hl : (s.data.toList.drop i).length = s.size - i := by rw [List.length_drop]; rfl
    unfold runesF
    by_cases hi : i < s.size
    · rw [if_pos hi]
      obtain ⟨b, l, e⟩ : ∃ b l, s.data.toList.drop i = b :: l := by
        cases hd : s.data.toList.drop i with
        | nil => rw [hd] at hl; simp at hl; omega
        | cons b l => exact ⟨b, l, rfl⟩
      have hp := decode_pos s i
      have hd := decode_L s i (by omega)
      rw [e]
      show _ = ⟨((decodeL (b :: l)).1 : Int)⟩ :: runesL f ((b :: l).drop (decodeL (b :: l)).2)
      rw [← e, ← hd, List.drop_drop]
      by_cases h2 : i + (Utf8.decode s i).2 ≤ s.size
      · rw [runesF_L s f _ h2]
      · have e1 : runesF s f (i + (Utf8.decode s i).2) = [] := by
          cases f with
          | zero => rfl
          | succ f => unfold runesF; rw [if_neg (by omega)]
        have e2 : s.data.toList.drop (i + (Utf8.decode s i).2) = [] := List.drop_of_length_le (by show s.size ≤ _; omega)
        rw [e1, e2]
        cases f <;> rfl
    · rw [if_neg hi]
      have e : s.data.toList.drop i = [] := List.eq_nil_of_length_eq_zero (by omega)
      rw [e]
      rfl
/-- The runes of bytes. -/
def runesB (l : List UInt8) : List Rn := runesL l.length l
theorem runesS_B (s : ByteArray) : runesS s = runesB s.data.toList := by
  have := runesF_L s s.size 0 (Nat.zero_le _)
  rw [List.drop_zero] at this
  exact this
theorem runesB_nil : runesB [] = [] := rfl
theorem runesB_ascii (b : UInt8) (l : List UInt8) (h : b.toNat < 128) : runesB (b :: l) = ⟨(b.toNat : Int)⟩ :: runesB l := by
  have e : decodeL (b :: l) = (b.toNat, 1) := by
    unfold decodeL
    dsimp only
    rw [if_pos (show ((b :: l).getD 0 0).toNat < 0x80 from h)]
    rfl
  unfold runesB
  show ⟨((decodeL (b :: l)).1 : Int)⟩ :: runesL l.length ((b :: l).drop (decodeL (b :: l)).2) = _
  rw [e]
  rfl
def isAsc (l : List UInt8) : Bool := l.all fun b => decide (b.toNat < 128)
def ascR (l : List UInt8) : List Rn := l.map fun b => ⟨(b.toNat : Int)⟩
theorem runesB_app : ∀ (l m : List UInt8), isAsc l = true → runesB (l ++ m) = ascR l ++ runesB m
  | [], m, _ => rfl
  | b :: l, m, h => by
    unfold isAsc at h
    rw [List.all_cons, Bool.and_eq_true, decide_eq_true_eq] at h
    rw [List.cons_append, runesB_ascii b _ h.1, runesB_app l m h.2]
    rfl
theorem runesB_asc {l : List UInt8} (h : isAsc l = true) : runesB l = ascR l := by
  have := runesB_app l [] h
  rwa [List.append_nil, runesB_nil, List.append_nil] at this
theorem ba_data_app (s t : ByteArray) : (s ++ t).data.toList = s.data.toList ++ t.data.toList := by
  rw [ByteArray.data_append, Array.toList_append]
/-- Text whose runes are told, whatever comes behind it. -/
def Asc (s : ByteArray) (L : List Rn) : Prop := isAsc s.data.toList = true ∧ ascR s.data.toList = L
theorem Asc.runes {s : ByteArray} {L : List Rn} (h : Asc s L) (t : ByteArray) : runesS (s ++ t) = L ++ runesS t := by
  rw [runesS_B, runesS_B, ba_data_app, runesB_app _ _ h.1, h.2]
theorem Asc.size {s : ByteArray} {L : List Rn} (h : Asc s L) : s.size = L.length := by
  rw [← h.2]
  unfold ascR
  rw [List.length_map]
  rfl
theorem Asc.nil : Asc ByteArray.empty [] := ⟨rfl, rfl⟩
end Go.Proofs.YtmmlolampgnamaaDoor.Ax
end

section
/- What a state is told as, in plain words: names, texts, what is read. -/
namespace Go.Proofs.YtmmlolampgnamaaDoor.Ax
open Go.RowKit
set_option linter.unusedVariables false
set_option linter.unusedSimpArgs false
structure Tx where
  v : ByteArray
  deriving Inhabited, DecidableEq
instance : Row Tx := ⟨fun t => [.str t.v], fun r => ⟨asStr (r.getD 0 .nilp)⟩, fun _ => rfl, 1, fun _ => rfl⟩
instance : NoRef Tx := ⟨fun _ => rfl⟩
@[simp] theorem rd_Tx_v (l : List Tx) (i : Int) : asStr (List.getD (rowAt (rowsOn l) (Int.toNat i)) 0 .nilp) = (rd l i).v := congrArg Tx.v (of_rowAt l i)
def chB (c : UInt8) : ByteArray := ⟨#[c]⟩
/-- Places' names. -/
def nameR (r : Int) : ByteArray := chB 114 ++ digS r ++ chB 61
def nameC (nm : ByteArray) (k : Int) : ByteArray := nm ++ chB 46 ++ digS k ++ chB 61
def regName (n r : Int) : List Tx := if n = 0 then [] else [⟨nameR r⟩]
def regNames (p : Prg) : List Tx := regName p.r0 0 ++ regName p.r1 1 ++ regName p.r2 2 ++ regName p.r3 3
def cellNames (nm : ByteArray) (k n : Int) : List Tx := (List.range (n - k).toNat).map fun (j : Nat) => ⟨nameC nm (k + j)⟩
def memNames : List PMem → List Tx
  | [] => []
  | m :: ms => cellNames m.name 0 m.n ++ memNames ms
def namesS (p : Prg) : List Tx := regNames p ++ memNames p.mems
def nameM : List PMem → Int → ByteArray
  | [], _ => chB 63
  | m :: ms, at_ => if at_ < m.n then nameC m.name at_ else nameM ms (at_ - m.n)
def nameP (p : Prg) (q : Place) : ByteArray := if q.reg then nameR q.n else nameM p.mems q.n
theorem cellNames_step (nm : ByteArray) {k n : Int} (h : k < n) : cellNames nm k n = ⟨nameC nm k⟩ :: cellNames nm (k + 1) n := by
  unfold cellNames
  rw [show (n - k).toNat = (n - (k + 1)).toNat + 1 by omega, List.range_succ_eq_map, List.map_cons, List.map_map]
  congr 1
  · simp
  · refine List.map_congr_left fun j _ => ?_
    simp only [Function.comp]
    rw [show k + ((j + 1 : Nat) : Int) = k + 1 + j by omega]
theorem cellNames_end (nm : ByteArray) {k n : Int} (h : n ≤ k) : cellNames nm k n = [] := by
  unfold cellNames
  rw [show (n - k).toNat = 0 by omega]; rfl
theorem memNames_drop (ms : List PMem) (k : Int) (h0 : 0 ≤ k) (h : k < ms.length) : memNames (ms.drop k.toNat) = cellNames (rd ms k).name 0 (rd ms k).n ++ memNames (ms.drop (k + 1).toNat) := by
  rw [drop_rd ms k h0 h]; rfl
theorem regName_map (n r : Int) (p : Prg) : (regPlace n r).map (fun q => (⟨nameP p q⟩ : Tx)) = regName n r := by
  unfold regPlace regName
  split <;> simp [nameP]
theorem regNames_map (p : Prg) : (regPlaces p).map (fun q => (⟨nameP p q⟩ : Tx)) = regNames p := by
  unfold regPlaces regNames
  simp only [List.map_append, regName_map]
theorem names_map {p : Prg} (h : MemsF p.mems) : (placesS p).map (fun q => (⟨nameP p q⟩ : Tx)) = namesS p := by
  unfold placesS namesS
  rw [List.map_append, regNames_map]
  congr 1
  unfold nameP
  rcases h with h | h | h | h | h <;> (rw [h]; rfl)
theorem names_len {p : Prg} (h : MemsF p.mems) : (namesS p).length = (placesS p).length := by rw [← names_map h, List.length_map]
/-- What a place holds. -/
def heldS (s : Sta) (q : Place) : Int := if q.reg then s.reg q.n else if q.n < s.mem.length then rd s.mem q.n else 0
def toldL (p : Prg) (s : Sta) : List Tx := List.zipWith (fun (t : Tx) q => (⟨t.v ++ digS (heldS s q)⟩ : Tx)) (namesS p) (placesS p)
def joinT (l : List Tx) : ByteArray := ⟨(([32] : List UInt8).intercalate (l.map fun t => t.v.data.toList)).toArray⟩
def showS (p : Prg) (s : Sta) : ByteArray := joinT (toldL p s)
def wantI (l : List Tx) (i : Int) : ByteArray := if 0 < i then chB 32 ++ (rd l i).v else (rd l i).v
def matchN : List Rn → List Rn → Nat
  | c :: cs, r :: l => if r = c then matchN cs l + 1 else 0
  | _, _ => 0
/-- What is read, of so many wants; where it goes wrong. -/
def parseF (size : Int) : List (List Rn) → List Rn → Int → List Int × Int × Bool
  | [], [], _ => ([], 0, true)
  | [], _ :: _, at_ => ([], at_, false)
  | w :: ws, l, at_ =>
    if matchN w l < w.length then ([], at_ + matchN w l, false)
    else match numL (l.drop w.length) 5 with
      | none => ([], at_ + w.length, false)
      | some (n, k) => if aloneL (l.drop (w.length + k)) = true ∧ n < size then
          (if (parseF size ws (l.drop (w.length + k)) (at_ + w.length + k)).2.2 = true then (n :: (parseF size ws (l.drop (w.length + k)) (at_ + w.length + k)).1, 0, true) else ([], (parseF size ws (l.drop (w.length + k)) (at_ + w.length + k)).2.1, false))
        else ([], at_ + w.length, false)
def wantsS (l : List Tx) : List (List Rn) := (List.range l.length).map fun (i : Nat) => runesS (wantI l i)
def readS (p : Prg) (t : ByteArray) : List Int × Int × Bool := parseF (sizeS p.w) (wantsS (namesS p)) (runesS t) 0
def parseS (p : Prg) (t : ByteArray) : Sta × Int × Bool := if (readS p t).2.2 = true then ((startS p (readS p t).1).1, 0, (startS p (readS p t).1).2) else (zeroSta 0, (readS p t).2.1, false)
end Go.Proofs.YtmmlolampgnamaaDoor.Ax
end
