/- Several texts in one, in their order. -/
import Derived.Test.YtmhfhobaicklmaaPart0
import Derived.Test.YtmhfhobaicklmaaAx22
import Derived.Test.YtmhfhobaicklmaaAx24
section
/- Clones; and what computing may take from outside. -/
namespace Go.Proofs.Ytmhfhobaicklmaa.Ax
open Go.RowKit
set_option linter.unusedVariables false
set_option linter.unusedSimpArgs false
/-- A list alone: beside (), so that it is not taken apart where the trees are printed. -/
def rdL {α : Type} [Row α] : List A → List α × Unit
  | [.c (.sl r)] => (listOf α r, ())
  | _ => ([], ())
theorem clone_int {rows : List (List D)} (h1 : (rows.all fun r => r.length == 1) = true) (h2 : rows.length ≤ 1000000000) : ACalls Try.prog 97 [.c (.sl rows)] (.c (.new 1 rows)) :=
  clone_calls (f := 97) (fn := Try.f97) (t := 22) (u := 3) (bytes := 8) (z := [.d (.int .i64 0)]) (by kernel_rfl) rfl rfl (by kernel_rfl) (by kernel_rfl) (by kernel_rfl) (by kernel_rfl) rfl rfl rfl (by kernel_rfl) (by kernel_rfl) (fun _ => rfl) h1 (by omega)
theorem clone_ent {rows : List (List D)} (h1 : (rows.all fun r => r.length == 8) = true) (h2 : rows.length ≤ 1000000000) : ACalls Try.prog 86 [.c (.sl rows)] (.c (.new 8 rows)) :=
  clone_calls (f := 86) (fn := Try.f86) (t := 34) (u := 43) (bytes := 48) (z := [.d (.int .i64 0), .d (.int .i64 0), .d (.int .i64 0), .d (.int .i64 0), .d (.int .i64 0), .d (.bool false), .d (.bool false), .d (.bool false)]) (by kernel_rfl) rfl rfl (by kernel_rfl) (by kernel_rfl) (by kernel_rfl) (by kernel_rfl) rfl rfl rfl (by kernel_rfl) (by kernel_rfl) (fun _ => rfl) h1 (by omega)
def rnewI (l : List Int) : RR := .c (.new 1 (rowsOn l))
def rnewE (l : List Ent) : RR := .c (.new 8 (rowsOn l))
def c_cloneI : FT (List Int × Unit) := ⟨97, fun l => [al l.1], rdL, fun l => l.1.length ≤ 1000000000, fun l => rnewI l.1, false, fun l => by simp [al, rdL]⟩
theorem c_cloneI_good : c_cloneI.fe.Good Try.prog := by
  refine FT.good c_cloneI ⟨Try.f97, by kernel_rfl, by decide +kernel, by kernel_rfl⟩ (fun l => by simp [c_cloneI, rnewI, rrRef]) fun l hl => clone_int (rowsOn_all _ _ rfl) (by rw [rowsOn_length]; exact hl)
def c_cloneE : FT (List Ent × Unit) := ⟨86, fun l => [.c (.sl (rowsOn l.1))], rdL, fun l => l.1.length ≤ 1000000000, fun l => rnewE l.1, false, fun l => by simp [rdL]⟩
theorem c_cloneE_good : c_cloneE.fe.Good Try.prog := by
  refine FT.good c_cloneE ⟨Try.f86, by kernel_rfl, by decide +kernel, by kernel_rfl⟩ (fun l => by simp [c_cloneE, rnewE, rrRef]) fun l hl => clone_ent (rowsOn_all _ _ rfl) (by rw [rowsOn_length]; exact hl)
def extE (f : FuncId) (xs : List A) : Option RR := match f, xs with
  | 97, [.c (.sl rows)] => if (rows.all fun r => r.length == 1) = true ∧ rows.length ≤ 1000000000 then some (.c (.new 1 rows)) else none
  | 86, [.c (.sl rows)] => if (rows.all fun r => r.length == 8) = true ∧ rows.length ≤ 1000000000 then some (.c (.new 8 rows)) else none
  | _, _ => none
theorem extE_sound : ∀ g xs r, extE g xs = some r → ACalls Try.prog g xs r ∧ Enters Try.prog g := by
  intro g xs r h
  unfold extE at h
  split at h
  · split at h
    · rename_i hc
      simp only [Option.some.injEq] at h; subst h
      exact ⟨clone_int hc.1 hc.2, ⟨Try.f97, by kernel_rfl, by decide +kernel, by kernel_rfl⟩⟩
    · cases h
  · split at h
    · rename_i hc
      simp only [Option.some.injEq] at h; subst h
      exact ⟨clone_ent hc.1 hc.2, ⟨Try.f86, by kernel_rfl, by decide +kernel, by kernel_rfl⟩⟩
    · cases h
  · cases h
def rd0 : List A → Unit := fun _ => ()
end Go.Proofs.Ytmhfhobaicklmaa.Ax
end

section
/- Programs of numbers: augurylaw6.Make answers one that is well made. -/
namespace Go.Proofs.Ytmhfhobaicklmaa.Ax
open Go.RowKit
set_option linter.unusedVariables false
set_option linter.unusedSimpArgs false
structure WFI (n : Int) (i : Ins) : Prop where
  kind : 1 ≤ i.kind ∧ i.kind ≤ 11
  op : 0 ≤ i.op ∧ i.op ≤ 10
  d : 0 ≤ i.d ∧ i.d < 4
  aN : 0 ≤ i.aN ∧ i.aN < 4
  bN : 0 ≤ i.bN ∧ i.bN < 4
  target : 0 ≤ i.target ∧ i.target ≤ n
def rdLI : List A → List Int × Int
  | [.c (.int _ i), .c (.rptr [.sl r])] => (listOf Int r, i)
  | _ => ([], 0)
def kS (l : List Int) (i : Int) : Int := if i < l.length then rd l i else i
def c_mkk : FT (List Int × Int) := ⟨36, fun x => [ai x.2, .c (.rptr [.sl (rowsOn x.1)])], rdLI, fun x => 0 ≤ x.2, fun x => ri (kS x.1 x.2), false, fun x => by simp [ai, rdLI]⟩
noncomputable def a_mkk : FnA := (fnA Try.prog Try.f36 2 []).getD ⟨0, .skip, [], []⟩
def s_mkk : Sp := spT []
theorem s_mkk_sound : s_mkk.sound Try.prog := spT_sound fun e he => by cases he
set_option maxRecDepth 100000 in
theorem t_mkk (l : List Int) (i : Int) : a_mkk.start s_mkk 400 [ai i, .c (.rptr [.sl (rowsOn l)])] =
(VC.need (okSh [Kd.sl] [D.sl (rowsOn l)])
(VC.br (decide (i < (↑(List.length (asRows (D.sl (rowsOn l)))) : Int)))
 (VC.need (okSh [Kd.sl] [D.sl (rowsOn l)])
 (VC.need ((0 : Int) ≤ i ∧ i < (↑(List.length (asRows (D.sl (rowsOn l)))) : Int) ∧ List.length (rowAt (asRows (D.sl (rowsOn l))) (Int.toNat i)) = (1 : Nat))
 (VC.need (okSh [Kd.int IntKind.i64] (rowAt (asRows (D.sl (rowsOn l))) (Int.toNat i)))
 (VC.ret (some (RR.c (Rc.d (D.int IntKind.i64 (asInt (List.getD (rowAt (asRows (D.sl (rowsOn l))) (Int.toNat i)) (0 : Nat) D.nilp))))))))))
 (VC.ret (some (RR.c (Rc.d (D.int IntKind.i64 i))))))) := by kernel_rfl
theorem c_mkk_good : c_mkk.fe.Good Try.prog := by
  refine FT.good c_mkk ⟨Try.f36, by kernel_rfl, by decide +kernel, by kernel_rfl⟩ (fun ⟨l, i⟩ => by first | rfl | simp [c_mkk, rrRef, rnewI, rnewE, rstab, rplaces, ri, rb, rib, Sta.fresh]) fun ⟨l, i⟩ hp => ?_
  refine acalls_le s_mkk_sound (fn := Try.f36) (a := a_mkk) (nargs := 2) (tbl := []) (by kernel_rfl) (by kernel_rfl) rfl (m := 400) ?_
  show VC.holds _ _ _ (a_mkk.start s_mkk 400 [ai i, .c (.rptr [.sl (rowsOn l)])])
  rw [t_mkk]
  try simp only [asRows_sl, asInt_int, asBool_bool, asStr_str, listOf_rowsOn, List.drop_zero, Prg.eta, Sta.eta, rowsOn_length, getD_drop, Nat.reduceAdd, rd_int, rd_PMem_name, rd_PMem_secret, rd_PMem_n, rd_PLabel_name, rd_PLabel_at_, rd_Ins_kind, rd_Ins_op, rd_Ins_d, rd_Ins_aR, rd_Ins_aN, rd_Ins_bR, rd_Ins_bN, rd_Ins_name, rd_Ins_target, rd_Ent_pc, rd_Ent_val, rd_Ent_addr, rd_Ent_fro, rd_Ent_next, rd_Ent_done, rd_Ent_known, rd_Ent_fault, rd_Place_reg, rd_Place_n, rd_Place_secret, rd_Obs_kind, rd_Obs_at_, rd_Dir_kind, rd_Dir_n]
  try simp only [c_mkk] at hp
  refine ⟨rfl, ?_⟩
  refine br_dec (fun h => ?_) (fun h => ?_)
  · refine ⟨rfl, idx_ok _ _ _ rfl hp h, okSh_ok _ _ _ (fun _ => rfl) hp h, ret_eq ?_⟩
    simp only [c_mkk, kS, if_pos h]
    rfl
  · refine ret_eq ?_
    simp only [c_mkk, kS, if_neg h]
    rfl
def valM (n : Int) : Bool × Int := (!(bits .and .i64 n 4 == 0), bits .and .i64 n 3)
def c_lval : FT Int := ⟨76, fun n => [ai n], rdI1, fun _ => True, fun n => .agg [.d (.bool (valM n).1), .d (.int .i64 (valM n).2)], false, fun _ => rfl⟩
noncomputable def a_lval : FnA := (fnA Try.prog Try.f76 1 []).getD ⟨0, .skip, [], []⟩
def s_lval : Sp := spT []
theorem s_lval_sound : s_lval.sound Try.prog := spT_sound fun e he => by cases he
set_option maxRecDepth 100000 in
theorem t_lval (n : Int) : a_lval.start s_lval 400 [ai n] =
(VC.br (bits BinOp.and IntKind.i64 n (4 : Int) == (0 : Int))
 (VC.ret (some (RR.agg [Rc.d (D.bool false), Rc.d (D.int IntKind.i64 (bits BinOp.and IntKind.i64 n (3 : Int)))])))
 (VC.ret (some (RR.agg [Rc.d (D.bool true), Rc.d (D.int IntKind.i64 (bits BinOp.and IntKind.i64 n (3 : Int)))])))) := by kernel_rfl
theorem c_lval_good : c_lval.fe.Good Try.prog := by
  refine FT.good c_lval ⟨Try.f76, by kernel_rfl, by decide +kernel, by kernel_rfl⟩ (fun n => by first | rfl | simp [c_lval, rrRef, rnewI, rnewE, rstab, rplaces, ri, rb, rib, Sta.fresh]) fun n hp => ?_
  refine acalls_le s_lval_sound (fn := Try.f76) (a := a_lval) (nargs := 1) (tbl := []) (by kernel_rfl) (by kernel_rfl) rfl (m := 400) ?_
  show VC.holds _ _ _ (a_lval.start s_lval 400 [ai n])
  rw [t_lval]
  try simp only [asRows_sl, asInt_int, asBool_bool, asStr_str, listOf_rowsOn, List.drop_zero, Prg.eta, Sta.eta, rowsOn_length, getD_drop, Nat.reduceAdd, rd_int, rd_PMem_name, rd_PMem_secret, rd_PMem_n, rd_PLabel_name, rd_PLabel_at_, rd_Ins_kind, rd_Ins_op, rd_Ins_d, rd_Ins_aR, rd_Ins_aN, rd_Ins_bR, rd_Ins_bN, rd_Ins_name, rd_Ins_target, rd_Ent_pc, rd_Ent_val, rd_Ent_addr, rd_Ent_fro, rd_Ent_next, rd_Ent_done, rd_Ent_known, rd_Ent_fault, rd_Place_reg, rd_Place_n, rd_Place_secret, rd_Obs_kind, rd_Obs_at_, rd_Dir_kind, rd_Dir_n]
  try simp only [c_lval] at hp
  refine br_holds (fun h => ?_) (fun h => ?_)
  · refine ret_eq ?_
    simp only [c_lval, valM, h]
    rfl
  · refine ret_eq ?_
    simp only [c_lval, valM, h]
    rfl
noncomputable def insM (x n : Int) : Ins := pick fun i => WFI n i ∧ ACalls Try.prog 38 [ai x, ai n] (.agg ((row i).map .d))
noncomputable def c_lins : FT (Int × Int) := ⟨38, fun x => [ai x.1, ai x.2], rdI2, fun x => 1 ≤ x.2 ∧ x.2 ≤ 1000, fun x => .agg ((row (insM x.1 x.2)).map .d), false, fun _ => rfl⟩
theorem tabK : ∀ i : Nat, i < 18 → (1 ≤ asInt (List.getD (rowAt [[D.int IntKind.i64 (1 : Int)], [D.int IntKind.i64 (1 : Int)], [D.int IntKind.i64 (2 : Int)], [D.int IntKind.i64 (2 : Int)], [D.int IntKind.i64 (2 : Int)], [D.int IntKind.i64 (3 : Int)], [D.int IntKind.i64 (3 : Int)], [D.int IntKind.i64 (4 : Int)], [D.int IntKind.i64 (5 : Int)], [D.int IntKind.i64 (5 : Int)], [D.int IntKind.i64 (5 : Int)], [D.int IntKind.i64 (6 : Int)], [D.int IntKind.i64 (7 : Int)], [D.int IntKind.i64 (8 : Int)], [D.int IntKind.i64 (9 : Int)], [D.int IntKind.i64 (10 : Int)], [D.int IntKind.i64 (11 : Int)], [D.int IntKind.i64 (1 : Int)]] i) 0 D.nilp) ∧ asInt (List.getD (rowAt [[D.int IntKind.i64 (1 : Int)], [D.int IntKind.i64 (1 : Int)], [D.int IntKind.i64 (2 : Int)], [D.int IntKind.i64 (2 : Int)], [D.int IntKind.i64 (2 : Int)], [D.int IntKind.i64 (3 : Int)], [D.int IntKind.i64 (3 : Int)], [D.int IntKind.i64 (4 : Int)], [D.int IntKind.i64 (5 : Int)], [D.int IntKind.i64 (5 : Int)], [D.int IntKind.i64 (5 : Int)], [D.int IntKind.i64 (6 : Int)], [D.int IntKind.i64 (7 : Int)], [D.int IntKind.i64 (8 : Int)], [D.int IntKind.i64 (9 : Int)], [D.int IntKind.i64 (10 : Int)], [D.int IntKind.i64 (11 : Int)], [D.int IntKind.i64 (1 : Int)]] i) 0 D.nilp) ≤ 11) ∧ (rowAt [[D.int IntKind.i64 (1 : Int)], [D.int IntKind.i64 (1 : Int)], [D.int IntKind.i64 (2 : Int)], [D.int IntKind.i64 (2 : Int)], [D.int IntKind.i64 (2 : Int)], [D.int IntKind.i64 (3 : Int)], [D.int IntKind.i64 (3 : Int)], [D.int IntKind.i64 (4 : Int)], [D.int IntKind.i64 (5 : Int)], [D.int IntKind.i64 (5 : Int)], [D.int IntKind.i64 (5 : Int)], [D.int IntKind.i64 (6 : Int)], [D.int IntKind.i64 (7 : Int)], [D.int IntKind.i64 (8 : Int)], [D.int IntKind.i64 (9 : Int)], [D.int IntKind.i64 (10 : Int)], [D.int IntKind.i64 (11 : Int)], [D.int IntKind.i64 (1 : Int)]] i).length = 1 ∧ okSh [Kd.int IntKind.i64] (rowAt [[D.int IntKind.i64 (1 : Int)], [D.int IntKind.i64 (1 : Int)], [D.int IntKind.i64 (2 : Int)], [D.int IntKind.i64 (2 : Int)], [D.int IntKind.i64 (2 : Int)], [D.int IntKind.i64 (3 : Int)], [D.int IntKind.i64 (3 : Int)], [D.int IntKind.i64 (4 : Int)], [D.int IntKind.i64 (5 : Int)], [D.int IntKind.i64 (5 : Int)], [D.int IntKind.i64 (5 : Int)], [D.int IntKind.i64 (6 : Int)], [D.int IntKind.i64 (7 : Int)], [D.int IntKind.i64 (8 : Int)], [D.int IntKind.i64 (9 : Int)], [D.int IntKind.i64 (10 : Int)], [D.int IntKind.i64 (11 : Int)], [D.int IntKind.i64 (1 : Int)]] i) := by
  intro i hi
  have : i = 0 ∨ i = 1 ∨ i = 2 ∨ i = 3 ∨ i = 4 ∨ i = 5 ∨ i = 6 ∨ i = 7 ∨ i = 8 ∨ i = 9 ∨ i = 10 ∨ i = 11 ∨ i = 12 ∨ i = 13 ∨ i = 14 ∨ i = 15 ∨ i = 16 ∨ i = 17 := by omega
  rcases this with h | h | h | h | h | h | h | h | h | h | h | h | h | h | h | h | h | h <;> (subst h; exact ⟨by decide, rfl, rfl⟩)
theorem tabO : ∀ i : Nat, i < 4 → (0 ≤ asInt (List.getD (rowAt [[D.int IntKind.i64 (9 : Int)], [D.int IntKind.i64 (10 : Int)], [D.int IntKind.i64 (3 : Int)], [D.int IntKind.i64 (2 : Int)]] i) 0 D.nilp) ∧ asInt (List.getD (rowAt [[D.int IntKind.i64 (9 : Int)], [D.int IntKind.i64 (10 : Int)], [D.int IntKind.i64 (3 : Int)], [D.int IntKind.i64 (2 : Int)]] i) 0 D.nilp) ≤ 10) ∧ (rowAt [[D.int IntKind.i64 (9 : Int)], [D.int IntKind.i64 (10 : Int)], [D.int IntKind.i64 (3 : Int)], [D.int IntKind.i64 (2 : Int)]] i).length = 1 ∧ okSh [Kd.int IntKind.i64] (rowAt [[D.int IntKind.i64 (9 : Int)], [D.int IntKind.i64 (10 : Int)], [D.int IntKind.i64 (3 : Int)], [D.int IntKind.i64 (2 : Int)]] i) := by
  intro i hi
  have : i = 0 ∨ i = 1 ∨ i = 2 ∨ i = 3 := by omega
  rcases this with h | h | h | h <;> (subst h; exact ⟨by decide, rfl, rfl⟩)
theorem tmod255 (y k : Int) : Int.tmod (bits .and .i64 y 255) k = (y % 256) % k := by
  rw [and255, Int.tmod_eq_emod_of_nonneg (by omega)]
noncomputable def a_lins : FnA := (fnA Try.prog Try.f38 2 []).getD ⟨0, .skip, [], []⟩
def s_lins : Sp := spT [c_lval.fe]
theorem s_lins_sound : s_lins.sound Try.prog := spT_sound fun e he => by
  simp only [List.mem_cons, List.not_mem_nil, or_false] at he
  rcases he with rfl
  · exact c_lval_good
set_option maxRecDepth 100000 in
theorem t_lins (x n : Int) : a_lins.start s_lins 400 [ai x, ai n] =
(VC.need ((18 : Int) ≠ (0 : Int))
(VC.need ((0 : Int) ≤ Int.tmod (bits BinOp.and IntKind.i64 x (255 : Int)) (18 : Int) ∧ Int.tmod (bits BinOp.and IntKind.i64 x (255 : Int)) (18 : Int) < (18 : Int))
(VC.need (Int.toNat (Int.tmod (bits BinOp.and IntKind.i64 x (255 : Int)) (18 : Int)) < (18 : Nat) ∧ List.length (rowAt [[D.int IntKind.i64 (1 : Int)], [D.int IntKind.i64 (1 : Int)], [D.int IntKind.i64 (2 : Int)], [D.int IntKind.i64 (2 : Int)], [D.int IntKind.i64 (2 : Int)], [D.int IntKind.i64 (3 : Int)], [D.int IntKind.i64 (3 : Int)], [D.int IntKind.i64 (4 : Int)], [D.int IntKind.i64 (5 : Int)], [D.int IntKind.i64 (5 : Int)], [D.int IntKind.i64 (5 : Int)], [D.int IntKind.i64 (6 : Int)], [D.int IntKind.i64 (7 : Int)], [D.int IntKind.i64 (8 : Int)], [D.int IntKind.i64 (9 : Int)], [D.int IntKind.i64 (10 : Int)], [D.int IntKind.i64 (11 : Int)], [D.int IntKind.i64 (1 : Int)]] (Int.toNat (Int.tmod (bits BinOp.and IntKind.i64 x (255 : Int)) (18 : Int)))) = (1 : Nat) ∧ okSh [Kd.int IntKind.i64] (List.drop (0 : Nat) (rowAt [[D.int IntKind.i64 (1 : Int)], [D.int IntKind.i64 (1 : Int)], [D.int IntKind.i64 (2 : Int)], [D.int IntKind.i64 (2 : Int)], [D.int IntKind.i64 (2 : Int)], [D.int IntKind.i64 (3 : Int)], [D.int IntKind.i64 (3 : Int)], [D.int IntKind.i64 (4 : Int)], [D.int IntKind.i64 (5 : Int)], [D.int IntKind.i64 (5 : Int)], [D.int IntKind.i64 (5 : Int)], [D.int IntKind.i64 (6 : Int)], [D.int IntKind.i64 (7 : Int)], [D.int IntKind.i64 (8 : Int)], [D.int IntKind.i64 (9 : Int)], [D.int IntKind.i64 (10 : Int)], [D.int IntKind.i64 (11 : Int)], [D.int IntKind.i64 (1 : Int)]] (Int.toNat (Int.tmod (bits BinOp.and IntKind.i64 x (255 : Int)) (18 : Int))))))
(VC.need ((0 : Int) ≤ (8 : Int))
(VC.need (PreOk c_lval (Int.fdiv x (256 : Int)) [A.c (D.int IntKind.i64 (Int.fdiv x (256 : Int)))])
(VC.need ((0 : Int) ≤ (11 : Int))
(VC.need (PreOk c_lval (Int.fdiv x (2048 : Int)) [A.c (D.int IntKind.i64 (Int.fdiv x (2048 : Int)))])
(VC.br (asInt (List.getD (List.drop (0 : Nat) (rowAt [[D.int IntKind.i64 (1 : Int)], [D.int IntKind.i64 (1 : Int)], [D.int IntKind.i64 (2 : Int)], [D.int IntKind.i64 (2 : Int)], [D.int IntKind.i64 (2 : Int)], [D.int IntKind.i64 (3 : Int)], [D.int IntKind.i64 (3 : Int)], [D.int IntKind.i64 (4 : Int)], [D.int IntKind.i64 (5 : Int)], [D.int IntKind.i64 (5 : Int)], [D.int IntKind.i64 (5 : Int)], [D.int IntKind.i64 (6 : Int)], [D.int IntKind.i64 (7 : Int)], [D.int IntKind.i64 (8 : Int)], [D.int IntKind.i64 (9 : Int)], [D.int IntKind.i64 (10 : Int)], [D.int IntKind.i64 (11 : Int)], [D.int IntKind.i64 (1 : Int)]] (Int.toNat (Int.tmod (bits BinOp.and IntKind.i64 x (255 : Int)) (18 : Int))))) (0 : Nat) D.nilp) == (1 : Int))
 (VC.need ((0 : Int) ≤ (16 : Int))
 (VC.need ((10 : Int) ≠ (0 : Int))
 (VC.need ((0 : Int) ≤ (14 : Int))
 (VC.ret (some (RR.agg [Rc.d (D.int IntKind.i64 (asInt (List.getD (List.drop (0 : Nat) (rowAt [[D.int IntKind.i64 (1 : Int)], [D.int IntKind.i64 (1 : Int)], [D.int IntKind.i64 (2 : Int)], [D.int IntKind.i64 (2 : Int)], [D.int IntKind.i64 (2 : Int)], [D.int IntKind.i64 (3 : Int)], [D.int IntKind.i64 (3 : Int)], [D.int IntKind.i64 (4 : Int)], [D.int IntKind.i64 (5 : Int)], [D.int IntKind.i64 (5 : Int)], [D.int IntKind.i64 (5 : Int)], [D.int IntKind.i64 (6 : Int)], [D.int IntKind.i64 (7 : Int)], [D.int IntKind.i64 (8 : Int)], [D.int IntKind.i64 (9 : Int)], [D.int IntKind.i64 (10 : Int)], [D.int IntKind.i64 (11 : Int)], [D.int IntKind.i64 (1 : Int)]] (Int.toNat (Int.tmod (bits BinOp.and IntKind.i64 x (255 : Int)) (18 : Int))))) (0 : Nat) D.nilp))), Rc.d (D.int IntKind.i64 (IntKind.wrap IntKind.i64 (Int.tmod (bits BinOp.and IntKind.i64 (Int.fdiv x (65536 : Int)) (255 : Int)) (10 : Int) + (1 : Int)))), Rc.d (D.int IntKind.i64 (bits BinOp.and IntKind.i64 (Int.fdiv x (16384 : Int)) (3 : Int))), Rc.d (D.bool !bits BinOp.and IntKind.i64 (Int.fdiv x (256 : Int)) (4 : Int) == (0 : Int)), Rc.d (D.int IntKind.i64 (bits BinOp.and IntKind.i64 (Int.fdiv x (256 : Int)) (3 : Int))), Rc.d (D.bool !bits BinOp.and IntKind.i64 (Int.fdiv x (2048 : Int)) (4 : Int) == (0 : Int)), Rc.d (D.int IntKind.i64 (bits BinOp.and IntKind.i64 (Int.fdiv x (2048 : Int)) (3 : Int))), Rc.d (D.str { data := #[] }), Rc.d (D.int IntKind.i64 (0 : Int))]))))))
 (VC.br (asInt (List.getD (List.drop (0 : Nat) (rowAt [[D.int IntKind.i64 (1 : Int)], [D.int IntKind.i64 (1 : Int)], [D.int IntKind.i64 (2 : Int)], [D.int IntKind.i64 (2 : Int)], [D.int IntKind.i64 (2 : Int)], [D.int IntKind.i64 (3 : Int)], [D.int IntKind.i64 (3 : Int)], [D.int IntKind.i64 (4 : Int)], [D.int IntKind.i64 (5 : Int)], [D.int IntKind.i64 (5 : Int)], [D.int IntKind.i64 (5 : Int)], [D.int IntKind.i64 (6 : Int)], [D.int IntKind.i64 (7 : Int)], [D.int IntKind.i64 (8 : Int)], [D.int IntKind.i64 (9 : Int)], [D.int IntKind.i64 (10 : Int)], [D.int IntKind.i64 (11 : Int)], [D.int IntKind.i64 (1 : Int)]] (Int.toNat (Int.tmod (bits BinOp.and IntKind.i64 x (255 : Int)) (18 : Int))))) (0 : Nat) D.nilp) == (2 : Int))
  (VC.need ((0 : Int) ≤ (14 : Int))
  (VC.ret (some (RR.agg [Rc.d (D.int IntKind.i64 (asInt (List.getD (List.drop (0 : Nat) (rowAt [[D.int IntKind.i64 (1 : Int)], [D.int IntKind.i64 (1 : Int)], [D.int IntKind.i64 (2 : Int)], [D.int IntKind.i64 (2 : Int)], [D.int IntKind.i64 (2 : Int)], [D.int IntKind.i64 (3 : Int)], [D.int IntKind.i64 (3 : Int)], [D.int IntKind.i64 (4 : Int)], [D.int IntKind.i64 (5 : Int)], [D.int IntKind.i64 (5 : Int)], [D.int IntKind.i64 (5 : Int)], [D.int IntKind.i64 (6 : Int)], [D.int IntKind.i64 (7 : Int)], [D.int IntKind.i64 (8 : Int)], [D.int IntKind.i64 (9 : Int)], [D.int IntKind.i64 (10 : Int)], [D.int IntKind.i64 (11 : Int)], [D.int IntKind.i64 (1 : Int)]] (Int.toNat (Int.tmod (bits BinOp.and IntKind.i64 x (255 : Int)) (18 : Int))))) (0 : Nat) D.nilp))), Rc.d (D.int IntKind.i64 (0 : Int)), Rc.d (D.int IntKind.i64 (bits BinOp.and IntKind.i64 (Int.fdiv x (16384 : Int)) (3 : Int))), Rc.d (D.bool !bits BinOp.and IntKind.i64 (Int.fdiv x (256 : Int)) (4 : Int) == (0 : Int)), Rc.d (D.int IntKind.i64 (bits BinOp.and IntKind.i64 (Int.fdiv x (256 : Int)) (3 : Int))), Rc.d (D.bool !bits BinOp.and IntKind.i64 (Int.fdiv x (2048 : Int)) (4 : Int) == (0 : Int)), Rc.d (D.int IntKind.i64 (bits BinOp.and IntKind.i64 (Int.fdiv x (2048 : Int)) (3 : Int))), Rc.d (D.str { data := #[] }), Rc.d (D.int IntKind.i64 (0 : Int))]))))
  (VC.br (asInt (List.getD (List.drop (0 : Nat) (rowAt [[D.int IntKind.i64 (1 : Int)], [D.int IntKind.i64 (1 : Int)], [D.int IntKind.i64 (2 : Int)], [D.int IntKind.i64 (2 : Int)], [D.int IntKind.i64 (2 : Int)], [D.int IntKind.i64 (3 : Int)], [D.int IntKind.i64 (3 : Int)], [D.int IntKind.i64 (4 : Int)], [D.int IntKind.i64 (5 : Int)], [D.int IntKind.i64 (5 : Int)], [D.int IntKind.i64 (5 : Int)], [D.int IntKind.i64 (6 : Int)], [D.int IntKind.i64 (7 : Int)], [D.int IntKind.i64 (8 : Int)], [D.int IntKind.i64 (9 : Int)], [D.int IntKind.i64 (10 : Int)], [D.int IntKind.i64 (11 : Int)], [D.int IntKind.i64 (1 : Int)]] (Int.toNat (Int.tmod (bits BinOp.and IntKind.i64 x (255 : Int)) (18 : Int))))) (0 : Nat) D.nilp) == (3 : Int))
   (VC.need ((0 : Int) ≤ (14 : Int))
   (VC.ret (some (RR.agg [Rc.d (D.int IntKind.i64 (asInt (List.getD (List.drop (0 : Nat) (rowAt [[D.int IntKind.i64 (1 : Int)], [D.int IntKind.i64 (1 : Int)], [D.int IntKind.i64 (2 : Int)], [D.int IntKind.i64 (2 : Int)], [D.int IntKind.i64 (2 : Int)], [D.int IntKind.i64 (3 : Int)], [D.int IntKind.i64 (3 : Int)], [D.int IntKind.i64 (4 : Int)], [D.int IntKind.i64 (5 : Int)], [D.int IntKind.i64 (5 : Int)], [D.int IntKind.i64 (5 : Int)], [D.int IntKind.i64 (6 : Int)], [D.int IntKind.i64 (7 : Int)], [D.int IntKind.i64 (8 : Int)], [D.int IntKind.i64 (9 : Int)], [D.int IntKind.i64 (10 : Int)], [D.int IntKind.i64 (11 : Int)], [D.int IntKind.i64 (1 : Int)]] (Int.toNat (Int.tmod (bits BinOp.and IntKind.i64 x (255 : Int)) (18 : Int))))) (0 : Nat) D.nilp))), Rc.d (D.int IntKind.i64 (0 : Int)), Rc.d (D.int IntKind.i64 (bits BinOp.and IntKind.i64 (Int.fdiv x (16384 : Int)) (3 : Int))), Rc.d (D.bool !bits BinOp.and IntKind.i64 (Int.fdiv x (256 : Int)) (4 : Int) == (0 : Int)), Rc.d (D.int IntKind.i64 (bits BinOp.and IntKind.i64 (Int.fdiv x (256 : Int)) (3 : Int))), Rc.d (D.bool !bits BinOp.and IntKind.i64 (Int.fdiv x (2048 : Int)) (4 : Int) == (0 : Int)), Rc.d (D.int IntKind.i64 (bits BinOp.and IntKind.i64 (Int.fdiv x (2048 : Int)) (3 : Int))), Rc.d (D.str { data := #[] }), Rc.d (D.int IntKind.i64 (0 : Int))]))))
   (VC.br (asInt (List.getD (List.drop (0 : Nat) (rowAt [[D.int IntKind.i64 (1 : Int)], [D.int IntKind.i64 (1 : Int)], [D.int IntKind.i64 (2 : Int)], [D.int IntKind.i64 (2 : Int)], [D.int IntKind.i64 (2 : Int)], [D.int IntKind.i64 (3 : Int)], [D.int IntKind.i64 (3 : Int)], [D.int IntKind.i64 (4 : Int)], [D.int IntKind.i64 (5 : Int)], [D.int IntKind.i64 (5 : Int)], [D.int IntKind.i64 (5 : Int)], [D.int IntKind.i64 (6 : Int)], [D.int IntKind.i64 (7 : Int)], [D.int IntKind.i64 (8 : Int)], [D.int IntKind.i64 (9 : Int)], [D.int IntKind.i64 (10 : Int)], [D.int IntKind.i64 (11 : Int)], [D.int IntKind.i64 (1 : Int)]] (Int.toNat (Int.tmod (bits BinOp.and IntKind.i64 x (255 : Int)) (18 : Int))))) (0 : Nat) D.nilp) == (4 : Int))
    (VC.need ((0 : Int) ≤ (14 : Int))
    (VC.ret (some (RR.agg [Rc.d (D.int IntKind.i64 (asInt (List.getD (List.drop (0 : Nat) (rowAt [[D.int IntKind.i64 (1 : Int)], [D.int IntKind.i64 (1 : Int)], [D.int IntKind.i64 (2 : Int)], [D.int IntKind.i64 (2 : Int)], [D.int IntKind.i64 (2 : Int)], [D.int IntKind.i64 (3 : Int)], [D.int IntKind.i64 (3 : Int)], [D.int IntKind.i64 (4 : Int)], [D.int IntKind.i64 (5 : Int)], [D.int IntKind.i64 (5 : Int)], [D.int IntKind.i64 (5 : Int)], [D.int IntKind.i64 (6 : Int)], [D.int IntKind.i64 (7 : Int)], [D.int IntKind.i64 (8 : Int)], [D.int IntKind.i64 (9 : Int)], [D.int IntKind.i64 (10 : Int)], [D.int IntKind.i64 (11 : Int)], [D.int IntKind.i64 (1 : Int)]] (Int.toNat (Int.tmod (bits BinOp.and IntKind.i64 x (255 : Int)) (18 : Int))))) (0 : Nat) D.nilp))), Rc.d (D.int IntKind.i64 (0 : Int)), Rc.d (D.int IntKind.i64 (bits BinOp.and IntKind.i64 (Int.fdiv x (16384 : Int)) (3 : Int))), Rc.d (D.bool !bits BinOp.and IntKind.i64 (Int.fdiv x (256 : Int)) (4 : Int) == (0 : Int)), Rc.d (D.int IntKind.i64 (bits BinOp.and IntKind.i64 (Int.fdiv x (256 : Int)) (3 : Int))), Rc.d (D.bool !bits BinOp.and IntKind.i64 (Int.fdiv x (2048 : Int)) (4 : Int) == (0 : Int)), Rc.d (D.int IntKind.i64 (bits BinOp.and IntKind.i64 (Int.fdiv x (2048 : Int)) (3 : Int))), Rc.d (D.str { data := #[] }), Rc.d (D.int IntKind.i64 (0 : Int))]))))
    (VC.br (asInt (List.getD (List.drop (0 : Nat) (rowAt [[D.int IntKind.i64 (1 : Int)], [D.int IntKind.i64 (1 : Int)], [D.int IntKind.i64 (2 : Int)], [D.int IntKind.i64 (2 : Int)], [D.int IntKind.i64 (2 : Int)], [D.int IntKind.i64 (3 : Int)], [D.int IntKind.i64 (3 : Int)], [D.int IntKind.i64 (4 : Int)], [D.int IntKind.i64 (5 : Int)], [D.int IntKind.i64 (5 : Int)], [D.int IntKind.i64 (5 : Int)], [D.int IntKind.i64 (6 : Int)], [D.int IntKind.i64 (7 : Int)], [D.int IntKind.i64 (8 : Int)], [D.int IntKind.i64 (9 : Int)], [D.int IntKind.i64 (10 : Int)], [D.int IntKind.i64 (11 : Int)], [D.int IntKind.i64 (1 : Int)]] (Int.toNat (Int.tmod (bits BinOp.and IntKind.i64 x (255 : Int)) (18 : Int))))) (0 : Nat) D.nilp) == (5 : Int))
     (VC.need ((0 : Int) ≤ (16 : Int))
     (VC.need ((0 : Int) ≤ bits BinOp.and IntKind.i64 (Int.fdiv x (65536 : Int)) (3 : Int) ∧ bits BinOp.and IntKind.i64 (Int.fdiv x (65536 : Int)) (3 : Int) < (4 : Int))
     (VC.need (Int.toNat (bits BinOp.and IntKind.i64 (Int.fdiv x (65536 : Int)) (3 : Int)) < (4 : Nat) ∧ List.length (rowAt [[D.int IntKind.i64 (9 : Int)], [D.int IntKind.i64 (10 : Int)], [D.int IntKind.i64 (3 : Int)], [D.int IntKind.i64 (2 : Int)]] (Int.toNat (bits BinOp.and IntKind.i64 (Int.fdiv x (65536 : Int)) (3 : Int)))) = (1 : Nat) ∧ okSh [Kd.int IntKind.i64] (List.drop (0 : Nat) (rowAt [[D.int IntKind.i64 (9 : Int)], [D.int IntKind.i64 (10 : Int)], [D.int IntKind.i64 (3 : Int)], [D.int IntKind.i64 (2 : Int)]] (Int.toNat (bits BinOp.and IntKind.i64 (Int.fdiv x (65536 : Int)) (3 : Int))))))
     (VC.need ((0 : Int) ≤ (18 : Int))
     (VC.need (IntKind.wrap IntKind.i64 (n + (1 : Int)) ≠ (0 : Int))
     (VC.ret (some (RR.agg [Rc.d (D.int IntKind.i64 (asInt (List.getD (List.drop (0 : Nat) (rowAt [[D.int IntKind.i64 (1 : Int)], [D.int IntKind.i64 (1 : Int)], [D.int IntKind.i64 (2 : Int)], [D.int IntKind.i64 (2 : Int)], [D.int IntKind.i64 (2 : Int)], [D.int IntKind.i64 (3 : Int)], [D.int IntKind.i64 (3 : Int)], [D.int IntKind.i64 (4 : Int)], [D.int IntKind.i64 (5 : Int)], [D.int IntKind.i64 (5 : Int)], [D.int IntKind.i64 (5 : Int)], [D.int IntKind.i64 (6 : Int)], [D.int IntKind.i64 (7 : Int)], [D.int IntKind.i64 (8 : Int)], [D.int IntKind.i64 (9 : Int)], [D.int IntKind.i64 (10 : Int)], [D.int IntKind.i64 (11 : Int)], [D.int IntKind.i64 (1 : Int)]] (Int.toNat (Int.tmod (bits BinOp.and IntKind.i64 x (255 : Int)) (18 : Int))))) (0 : Nat) D.nilp))), Rc.d (D.int IntKind.i64 (asInt (List.getD (List.drop (0 : Nat) (rowAt [[D.int IntKind.i64 (9 : Int)], [D.int IntKind.i64 (10 : Int)], [D.int IntKind.i64 (3 : Int)], [D.int IntKind.i64 (2 : Int)]] (Int.toNat (bits BinOp.and IntKind.i64 (Int.fdiv x (65536 : Int)) (3 : Int))))) (0 : Nat) D.nilp))), Rc.d (D.int IntKind.i64 (0 : Int)), Rc.d (D.bool !bits BinOp.and IntKind.i64 (Int.fdiv x (256 : Int)) (4 : Int) == (0 : Int)), Rc.d (D.int IntKind.i64 (bits BinOp.and IntKind.i64 (Int.fdiv x (256 : Int)) (3 : Int))), Rc.d (D.bool !bits BinOp.and IntKind.i64 (Int.fdiv x (2048 : Int)) (4 : Int) == (0 : Int)), Rc.d (D.int IntKind.i64 (bits BinOp.and IntKind.i64 (Int.fdiv x (2048 : Int)) (3 : Int))), Rc.d (D.str { data := #[] }), Rc.d (D.int IntKind.i64 (Int.tmod (bits BinOp.and IntKind.i64 (Int.fdiv x (262144 : Int)) (255 : Int)) (IntKind.wrap IntKind.i64 (n + (1 : Int)))))]))))))))
     (VC.br (asInt (List.getD (List.drop (0 : Nat) (rowAt [[D.int IntKind.i64 (1 : Int)], [D.int IntKind.i64 (1 : Int)], [D.int IntKind.i64 (2 : Int)], [D.int IntKind.i64 (2 : Int)], [D.int IntKind.i64 (2 : Int)], [D.int IntKind.i64 (3 : Int)], [D.int IntKind.i64 (3 : Int)], [D.int IntKind.i64 (4 : Int)], [D.int IntKind.i64 (5 : Int)], [D.int IntKind.i64 (5 : Int)], [D.int IntKind.i64 (5 : Int)], [D.int IntKind.i64 (6 : Int)], [D.int IntKind.i64 (7 : Int)], [D.int IntKind.i64 (8 : Int)], [D.int IntKind.i64 (9 : Int)], [D.int IntKind.i64 (10 : Int)], [D.int IntKind.i64 (11 : Int)], [D.int IntKind.i64 (1 : Int)]] (Int.toNat (Int.tmod (bits BinOp.and IntKind.i64 x (255 : Int)) (18 : Int))))) (0 : Nat) D.nilp) == (6 : Int))
      (VC.need ((0 : Int) ≤ (18 : Int))
      (VC.need (IntKind.wrap IntKind.i64 (n + (1 : Int)) ≠ (0 : Int))
      (VC.ret (some (RR.agg [Rc.d (D.int IntKind.i64 (asInt (List.getD (List.drop (0 : Nat) (rowAt [[D.int IntKind.i64 (1 : Int)], [D.int IntKind.i64 (1 : Int)], [D.int IntKind.i64 (2 : Int)], [D.int IntKind.i64 (2 : Int)], [D.int IntKind.i64 (2 : Int)], [D.int IntKind.i64 (3 : Int)], [D.int IntKind.i64 (3 : Int)], [D.int IntKind.i64 (4 : Int)], [D.int IntKind.i64 (5 : Int)], [D.int IntKind.i64 (5 : Int)], [D.int IntKind.i64 (5 : Int)], [D.int IntKind.i64 (6 : Int)], [D.int IntKind.i64 (7 : Int)], [D.int IntKind.i64 (8 : Int)], [D.int IntKind.i64 (9 : Int)], [D.int IntKind.i64 (10 : Int)], [D.int IntKind.i64 (11 : Int)], [D.int IntKind.i64 (1 : Int)]] (Int.toNat (Int.tmod (bits BinOp.and IntKind.i64 x (255 : Int)) (18 : Int))))) (0 : Nat) D.nilp))), Rc.d (D.int IntKind.i64 (0 : Int)), Rc.d (D.int IntKind.i64 (0 : Int)), Rc.d (D.bool false), Rc.d (D.int IntKind.i64 (0 : Int)), Rc.d (D.bool false), Rc.d (D.int IntKind.i64 (0 : Int)), Rc.d (D.str { data := #[] }), Rc.d (D.int IntKind.i64 (Int.tmod (bits BinOp.and IntKind.i64 (Int.fdiv x (262144 : Int)) (255 : Int)) (IntKind.wrap IntKind.i64 (n + (1 : Int)))))])))))
      (VC.br (asInt (List.getD (List.drop (0 : Nat) (rowAt [[D.int IntKind.i64 (1 : Int)], [D.int IntKind.i64 (1 : Int)], [D.int IntKind.i64 (2 : Int)], [D.int IntKind.i64 (2 : Int)], [D.int IntKind.i64 (2 : Int)], [D.int IntKind.i64 (3 : Int)], [D.int IntKind.i64 (3 : Int)], [D.int IntKind.i64 (4 : Int)], [D.int IntKind.i64 (5 : Int)], [D.int IntKind.i64 (5 : Int)], [D.int IntKind.i64 (5 : Int)], [D.int IntKind.i64 (6 : Int)], [D.int IntKind.i64 (7 : Int)], [D.int IntKind.i64 (8 : Int)], [D.int IntKind.i64 (9 : Int)], [D.int IntKind.i64 (10 : Int)], [D.int IntKind.i64 (11 : Int)], [D.int IntKind.i64 (1 : Int)]] (Int.toNat (Int.tmod (bits BinOp.and IntKind.i64 x (255 : Int)) (18 : Int))))) (0 : Nat) D.nilp) == (8 : Int))
       (VC.need ((0 : Int) ≤ (18 : Int))
       (VC.need (IntKind.wrap IntKind.i64 (n + (1 : Int)) ≠ (0 : Int))
       (VC.ret (some (RR.agg [Rc.d (D.int IntKind.i64 (asInt (List.getD (List.drop (0 : Nat) (rowAt [[D.int IntKind.i64 (1 : Int)], [D.int IntKind.i64 (1 : Int)], [D.int IntKind.i64 (2 : Int)], [D.int IntKind.i64 (2 : Int)], [D.int IntKind.i64 (2 : Int)], [D.int IntKind.i64 (3 : Int)], [D.int IntKind.i64 (3 : Int)], [D.int IntKind.i64 (4 : Int)], [D.int IntKind.i64 (5 : Int)], [D.int IntKind.i64 (5 : Int)], [D.int IntKind.i64 (5 : Int)], [D.int IntKind.i64 (6 : Int)], [D.int IntKind.i64 (7 : Int)], [D.int IntKind.i64 (8 : Int)], [D.int IntKind.i64 (9 : Int)], [D.int IntKind.i64 (10 : Int)], [D.int IntKind.i64 (11 : Int)], [D.int IntKind.i64 (1 : Int)]] (Int.toNat (Int.tmod (bits BinOp.and IntKind.i64 x (255 : Int)) (18 : Int))))) (0 : Nat) D.nilp))), Rc.d (D.int IntKind.i64 (0 : Int)), Rc.d (D.int IntKind.i64 (0 : Int)), Rc.d (D.bool false), Rc.d (D.int IntKind.i64 (0 : Int)), Rc.d (D.bool false), Rc.d (D.int IntKind.i64 (0 : Int)), Rc.d (D.str { data := #[] }), Rc.d (D.int IntKind.i64 (Int.tmod (bits BinOp.and IntKind.i64 (Int.fdiv x (262144 : Int)) (255 : Int)) (IntKind.wrap IntKind.i64 (n + (1 : Int)))))])))))
       (VC.br (asInt (List.getD (List.drop (0 : Nat) (rowAt [[D.int IntKind.i64 (1 : Int)], [D.int IntKind.i64 (1 : Int)], [D.int IntKind.i64 (2 : Int)], [D.int IntKind.i64 (2 : Int)], [D.int IntKind.i64 (2 : Int)], [D.int IntKind.i64 (3 : Int)], [D.int IntKind.i64 (3 : Int)], [D.int IntKind.i64 (4 : Int)], [D.int IntKind.i64 (5 : Int)], [D.int IntKind.i64 (5 : Int)], [D.int IntKind.i64 (5 : Int)], [D.int IntKind.i64 (6 : Int)], [D.int IntKind.i64 (7 : Int)], [D.int IntKind.i64 (8 : Int)], [D.int IntKind.i64 (9 : Int)], [D.int IntKind.i64 (10 : Int)], [D.int IntKind.i64 (11 : Int)], [D.int IntKind.i64 (1 : Int)]] (Int.toNat (Int.tmod (bits BinOp.and IntKind.i64 x (255 : Int)) (18 : Int))))) (0 : Nat) D.nilp) == (7 : Int))
        (VC.ret (some (RR.agg [Rc.d (D.int IntKind.i64 (asInt (List.getD (List.drop (0 : Nat) (rowAt [[D.int IntKind.i64 (1 : Int)], [D.int IntKind.i64 (1 : Int)], [D.int IntKind.i64 (2 : Int)], [D.int IntKind.i64 (2 : Int)], [D.int IntKind.i64 (2 : Int)], [D.int IntKind.i64 (3 : Int)], [D.int IntKind.i64 (3 : Int)], [D.int IntKind.i64 (4 : Int)], [D.int IntKind.i64 (5 : Int)], [D.int IntKind.i64 (5 : Int)], [D.int IntKind.i64 (5 : Int)], [D.int IntKind.i64 (6 : Int)], [D.int IntKind.i64 (7 : Int)], [D.int IntKind.i64 (8 : Int)], [D.int IntKind.i64 (9 : Int)], [D.int IntKind.i64 (10 : Int)], [D.int IntKind.i64 (11 : Int)], [D.int IntKind.i64 (1 : Int)]] (Int.toNat (Int.tmod (bits BinOp.and IntKind.i64 x (255 : Int)) (18 : Int))))) (0 : Nat) D.nilp))), Rc.d (D.int IntKind.i64 (0 : Int)), Rc.d (D.int IntKind.i64 (0 : Int)), Rc.d (D.bool !bits BinOp.and IntKind.i64 (Int.fdiv x (256 : Int)) (4 : Int) == (0 : Int)), Rc.d (D.int IntKind.i64 (bits BinOp.and IntKind.i64 (Int.fdiv x (256 : Int)) (3 : Int))), Rc.d (D.bool false), Rc.d (D.int IntKind.i64 (0 : Int)), Rc.d (D.str { data := #[] }), Rc.d (D.int IntKind.i64 (0 : Int))])))
        (VC.ret (some (RR.agg [Rc.d (D.int IntKind.i64 (asInt (List.getD (List.drop (0 : Nat) (rowAt [[D.int IntKind.i64 (1 : Int)], [D.int IntKind.i64 (1 : Int)], [D.int IntKind.i64 (2 : Int)], [D.int IntKind.i64 (2 : Int)], [D.int IntKind.i64 (2 : Int)], [D.int IntKind.i64 (3 : Int)], [D.int IntKind.i64 (3 : Int)], [D.int IntKind.i64 (4 : Int)], [D.int IntKind.i64 (5 : Int)], [D.int IntKind.i64 (5 : Int)], [D.int IntKind.i64 (5 : Int)], [D.int IntKind.i64 (6 : Int)], [D.int IntKind.i64 (7 : Int)], [D.int IntKind.i64 (8 : Int)], [D.int IntKind.i64 (9 : Int)], [D.int IntKind.i64 (10 : Int)], [D.int IntKind.i64 (11 : Int)], [D.int IntKind.i64 (1 : Int)]] (Int.toNat (Int.tmod (bits BinOp.and IntKind.i64 x (255 : Int)) (18 : Int))))) (0 : Nat) D.nilp))), Rc.d (D.int IntKind.i64 (0 : Int)), Rc.d (D.int IntKind.i64 (0 : Int)), Rc.d (D.bool false), Rc.d (D.int IntKind.i64 (0 : Int)), Rc.d (D.bool false), Rc.d (D.int IntKind.i64 (0 : Int)), Rc.d (D.str { data := #[] }), Rc.d (D.int IntKind.i64 (0 : Int))])))))))))))))))))) := by kernel_rfl
theorem x_lins (x n : Int) (h0 : 1 ≤ n ∧ n ≤ 1000) : ∃ r, (fun r => ∃ i : Ins, WFI n i ∧ r = .agg ((row i).map .d)) r ∧ ACalls Try.prog 38 [ai x, ai n] r := by
  refine acalls_some s_lins_sound (fn := Try.f38) (a := a_lins) (nargs := 2) (tbl := []) (by kernel_rfl) (by kernel_rfl) rfl (m := 400) ?_
  show VC.holds _ _ _ (a_lins.start s_lins 400 [ai x, ai n])
  rw [t_lins]
  try simp only [asRows_sl, asInt_int, asBool_bool, asStr_str, listOf_rowsOn, List.drop_zero, Prg.eta, Sta.eta, rowsOn_length, getD_drop, Nat.reduceAdd, rd_int, rd_PMem_name, rd_PMem_secret, rd_PMem_n, rd_PLabel_name, rd_PLabel_at_, rd_Ins_kind, rd_Ins_op, rd_Ins_d, rd_Ins_aR, rd_Ins_aN, rd_Ins_bR, rd_Ins_bN, rd_Ins_name, rd_Ins_target, rd_Ent_pc, rd_Ent_val, rd_Ent_addr, rd_Ent_fro, rd_Ent_next, rd_Ent_done, rd_Ent_known, rd_Ent_fault, rd_Place_reg, rd_Place_n, rd_Place_secret, rd_Obs_kind, rd_Obs_at_, rd_Dir_kind, rd_Dir_n]
  simp only [tmod255, and3, valM]
  rw [wrap_small (n + 1) (by omega) (by omega), wrap_small (Int.fdiv x 65536 % 256 % 10 + 1) (by omega) (by omega)]
  have hm : ∀ y : Int, 0 ≤ y % 256 % (n + 1) ∧ y % 256 % (n + 1) ≤ n := fun y => by
    have h1 := Int.emod_nonneg (y % 256) (show n + 1 ≠ 0 by omega)
    have h2 := Int.emod_lt_of_pos (y % 256) (show 0 < n + 1 by omega)
    omega
  have h1 := tabK (x % 256 % 18).toNat (by omega)
  have h2 := tabO (Int.fdiv x 65536 % 4).toNat (by omega)
  refine ⟨by decide, ⟨by omega, by omega⟩, ⟨by omega, h1.2.1, h1.2.2⟩, by decide, PreOk.mk trivial rfl, by decide, PreOk.mk trivial rfl, ?_⟩
  obtain ⟨h3, _⟩ := h1
  revert h3
  generalize asInt (List.getD (rowAt _ (x % 256 % 18).toNat) 0 D.nilp) = kd
  intro h3
  obtain ⟨h2a, h2⟩ := h2
  revert h2a
  generalize asInt (List.getD (rowAt _ (Int.fdiv x 65536 % 4).toNat) 0 D.nilp) = ko
  intro h2a
  have h5 := hm (Int.fdiv x 262144)
  repeat' first
    | refine br_not ?_
    | refine br_dec (fun _ => ?_) (fun _ => ?_)
    | refine br_beq (fun _ => ?_) (fun _ => ?_)
    | refine br_bne (fun _ => ?_) (fun _ => ?_)
    | refine br_holds (fun _ => ?_) (fun _ => ?_)
    | refine ⟨PreOk.mk ?_ rfl, ?_⟩
    | refine ⟨idx_ok _ _ _ rfl (by omega) (by omega), ?_⟩
    | refine ⟨okSh_ok _ _ _ (fun _ => rfl) (by omega) (by omega), ?_⟩
    | refine ⟨okSh_okD _ _ _ _ (fun _ => rfl) (by omega) (by omega), ?_⟩
    | refine ⟨aload_ok _ _ rfl (fun _ => rfl) (by omega) (by omega), ?_⟩
    | refine ⟨aload_okD _ _ _ rfl (fun _ => rfl) (by omega) (by omega), ?_⟩
    | refine ⟨astore_ok (by assumption) rfl (by omega) (by omega) (by decide), ?_⟩
    | refine ⟨app_ok (by assumption) rfl rfl (by simp only [List.length_cons, List.length_nil]; omega), ?_⟩
    | refine need_holds ?_ fun _ => ?_
    | refine all_holds fun y hy => ?_
    | refine ret_eq ?_
  all_goals try exact ⟨by omega, h2.1, h2.2⟩
  all_goals try omega
  all_goals
    refine ⟨⟨_, _, _, _, _, _, _, _, _⟩, ?_, rfl⟩
    exact ⟨by dsimp only; omega, by dsimp only; omega, by dsimp only; omega, by dsimp only; omega, by dsimp only; omega, by dsimp only; omega⟩
theorem insM_spec (x n : Int) (h : 1 ≤ n ∧ n ≤ 1000) : WFI n (insM x n) ∧ ACalls Try.prog 38 [ai x, ai n] (.agg ((row (insM x n)).map .d)) := by
  obtain ⟨r, ⟨i, h1, rfl⟩, h2⟩ := x_lins x n h
  exact pick_spec (Q := fun i => WFI n i ∧ ACalls Try.prog 38 [ai x, ai n] (.agg ((row i).map .d))) ⟨i, h1, h2⟩
theorem c_lins_good : c_lins.fe.Good Try.prog := FT.good c_lins ⟨Try.f38, by kernel_rfl, by decide +kernel, by kernel_rfl⟩ (fun _ => rfl) fun x hx => (insM_spec x.1 x.2 hx).2
def digS (n : Int) : ByteArray := if n = 0 then ⟨#[48]⟩ else if n = 1 then ⟨#[49]⟩ else if n = 2 then ⟨#[50]⟩ else if n = 3 then ⟨#[51]⟩ else if n = 4 then ⟨#[52]⟩ else if n = 5 then ⟨#[53]⟩ else if n = 6 then ⟨#[54]⟩ else if n = 7 then ⟨#[55]⟩ else if n = 8 then ⟨#[56]⟩ else ⟨#[57]⟩
theorem dig_calls (n : Int) (h : 0 ≤ n ∧ n ≤ 9) : ACalls Try.prog 37 [ai n] (.c (.d (.str (digS n)))) := by
  have : n = 0 ∨ n = 1 ∨ n = 2 ∨ n = 3 ∨ n = 4 ∨ n = 5 ∨ n = 6 ∨ n = 7 ∨ n = 8 ∨ n = 9 := by omega
  rcases this with h | h | h | h | h | h | h | h | h | h <;> (subst h; exact (axN_sound extE_sound (n := 20) 2 (by kernel_rfl)).1)
def c_dig1 : FT Int := ⟨37, fun n => [ai n], rdI1, fun n => 0 ≤ n ∧ n ≤ 9, fun n => .c (.d (.str (digS n))), false, fun _ => rfl⟩
theorem c_dig1_good : c_dig1.fe.Good Try.prog := FT.good c_dig1 ⟨Try.f37, by kernel_rfl, by decide +kernel, by kernel_rfl⟩ (fun _ => rfl) fun n hn => dig_calls n hn
end Go.Proofs.Ytmhfhobaicklmaa.Ax
end

section
/- Programs of numbers: augurylaw6.Make. -/
namespace Go.Proofs.Ytmhfhobaicklmaa.Ax
open Go.RowKit
set_option linter.unusedVariables false
set_option linter.unusedSimpArgs false
noncomputable def a_make : FnA := (fnA Try.prog Try.f11 1 [(5, [2, 3, 4, 5, 6, 7]), (21, [2, 3, 4, 8, 9, 3000256007000900007003, 3000256008000900008002, 3000256009000900009009]), (25, [2, 3, 4, 8, 10, 3000256007000900007003, 3000256008000900008002, 3000256009000900009009])]).getD ⟨0, .skip, [], []⟩
noncomputable def s_make : Sp := spT [c_mkk.fe, c_lins.fe, c_dig1.fe]
theorem s_make_sound : s_make.sound Try.prog := spT_sound fun e he => by
  simp only [List.mem_cons, List.not_mem_nil, or_false] at he
  rcases he with rfl | rfl | rfl
  · exact c_mkk_good
  · exact c_lins_good
  · exact c_dig1_good
def Z_mk : Nat × Blk := (128, bc [.d (.int .i64 0), .d (.int .i64 0), .d (.int .i64 0), .d (.int .i64 0), .d (.int .i64 0), .d (.int .i64 0), .d (.int .i64 0), .nil, .nil, .nil])
def F_mk0 (l : List Int) (w win r0 r1 r2 r3 pub sec i : Int) : St := ⟨mkS 171 [(2, vp 128), (3, .c (.d (.fn 36 [.rptr [.sl (rowsOn l)]]))), (4, vp 256), (5, vi pub), (6, vi sec), (7, vi i)],
  [Z_mk, (256, bc [.d (.int .i64 w), .d (.int .i64 win), .d (.int .i64 6), .d (.int .i64 r0), .d (.int .i64 r1), .d (.int .i64 r2), .d (.int .i64 r3), .nil, .nil, .nil])]⟩
def B_mk (w win r0 r1 r2 r3 : Int) (M L I : List (List D)) (nm nl ni : Nat) : List (Nat × Blk) := [Z_mk, (256, bc [.d (.int .i64 w), .d (.int .i64 win), .d (.int .i64 6), .d (.int .i64 r0), .d (.int .i64 r1), .d (.int .i64 r2), .d (.int .i64 r3), .own 900007 1 nm, .own 900008 1 nl, .own 900009 1 ni]), (900007, ba 3 M), (900008, ba 2 L), (900009, ba 9 I)]
def F_mk1 (l : List Int) (w win r0 r1 r2 r3 : Int) (M L I : List (List D)) (nm nl ni : Nat) (n i : Int) : St := ⟨mkS 171 [(2, vp 128), (3, .c (.d (.fn 36 [.rptr [.sl (rowsOn l)]]))), (4, vp 256), (8, vi n), (9, vi i)], B_mk w win r0 r1 r2 r3 M L I nm nl ni⟩
def F_mk2 (l : List Int) (w win r0 r1 r2 r3 : Int) (M L I : List (List D)) (nm nl ni : Nat) (n i : Int) : St := ⟨mkS 171 [(2, vp 128), (3, .c (.d (.fn 36 [.rptr [.sl (rowsOn l)]]))), (4, vp 256), (8, vi n), (10, vi i)], B_mk w win r0 r1 r2 r3 M L I nm nl ni⟩
set_option maxRecDepth 100000 in
theorem t_make (l : List Int) : a_make.start s_make 400 [al l] =
(VC.need (PreOk c_mkk (l, (0 : Int)) [A.c (D.int IntKind.i64 (0 : Int)), A.c (D.rptr [D.sl (rowsOn l)])])
(VC.need (PreOk c_mkk (l, (0 : Int)) [A.c (D.int IntKind.i64 (0 : Int)), A.c (D.rptr [D.sl (rowsOn l)])])
(VC.need ((0 : Int) ≤ (1 : Int))
(VC.need ((3 : Int) ≠ (0 : Int))
(FnA.at_ a_make 0 (F_mk0 l (IntKind.wrap IntKind.i64 (bits BinOp.and IntKind.i64 (kS (listOf Int (rowsOn l)) (0 : Int)) (1 : Int) + (1 : Int))) (IntKind.wrap IntKind.i64 (Int.tmod (bits BinOp.and IntKind.i64 (Int.fdiv (kS (listOf Int (rowsOn l)) (0 : Int)) (2 : Int)) (255 : Int)) (3 : Int) + (1 : Int))) (0 : Int) (0 : Int) (0 : Int) (0 : Int) (0 : Int) (0 : Int) (0 : Int))))))) := by kernel_rfl
set_option maxRecDepth 100000 in
theorem t_mk00 (l : List Int) (w win pub sec : Int) : a_make.round s_make 400 0 (F_mk0 l w win 0 0 0 0 pub sec 0) =
(VC.need (PreOk c_mkk (l, (1 : Int)) [A.c (D.int IntKind.i64 (1 : Int)), A.c (D.rptr [D.sl (rowsOn l)])])
(VC.need ((0 : Int) ≤ (0 : Int))
(VC.need ((0 : Int) ≤ bits BinOp.and IntKind.i64 (Int.fdiv (kS (listOf Int (rowsOn l)) (1 : Int)) (1 : Int)) (3 : Int) ∧ bits BinOp.and IntKind.i64 (Int.fdiv (kS (listOf Int (rowsOn l)) (1 : Int)) (1 : Int)) (3 : Int) < (4 : Int))
(VC.need (Int.toNat (bits BinOp.and IntKind.i64 (Int.fdiv (kS (listOf Int (rowsOn l)) (1 : Int)) (1 : Int)) (3 : Int)) < (4 : Nat) ∧ List.length (rowAt [[D.int IntKind.i64 (0 : Int)], [D.int IntKind.i64 (0 : Int)], [D.int IntKind.i64 (1 : Int)], [D.int IntKind.i64 (2 : Int)]] (Int.toNat (bits BinOp.and IntKind.i64 (Int.fdiv (kS (listOf Int (rowsOn l)) (1 : Int)) (1 : Int)) (3 : Int)))) = (1 : Nat) ∧ okSh [Kd.int IntKind.i64] (List.drop (0 : Nat) (rowAt [[D.int IntKind.i64 (0 : Int)], [D.int IntKind.i64 (0 : Int)], [D.int IntKind.i64 (1 : Int)], [D.int IntKind.i64 (2 : Int)]] (Int.toNat (bits BinOp.and IntKind.i64 (Int.fdiv (kS (listOf Int (rowsOn l)) (1 : Int)) (1 : Int)) (3 : Int))))))
(VC.br (asInt (List.getD (List.drop (0 : Nat) (rowAt [[D.int IntKind.i64 (0 : Int)], [D.int IntKind.i64 (0 : Int)], [D.int IntKind.i64 (1 : Int)], [D.int IntKind.i64 (2 : Int)]] (Int.toNat (bits BinOp.and IntKind.i64 (Int.fdiv (kS (listOf Int (rowsOn l)) (1 : Int)) (1 : Int)) (3 : Int))))) (0 : Nat) D.nilp) == (1 : Int))
 (VC.br (decide (IntKind.wrap IntKind.i64 (pub + w) ≤ (2 : Int)))
  (FnA.at_ a_make 0 (F_mk0 l w win (asInt (List.getD (List.drop (0 : Nat) (rowAt [[D.int IntKind.i64 (0 : Int)], [D.int IntKind.i64 (0 : Int)], [D.int IntKind.i64 (1 : Int)], [D.int IntKind.i64 (2 : Int)]] (Int.toNat (bits BinOp.and IntKind.i64 (Int.fdiv (kS (listOf Int (rowsOn l)) (1 : Int)) (1 : Int)) (3 : Int))))) (0 : Nat) D.nilp)) (0 : Int) (0 : Int) (0 : Int) (IntKind.wrap IntKind.i64 (pub + w)) sec (1 : Int)))
  (VC.br (asInt (List.getD (List.drop (0 : Nat) (rowAt [[D.int IntKind.i64 (0 : Int)], [D.int IntKind.i64 (0 : Int)], [D.int IntKind.i64 (1 : Int)], [D.int IntKind.i64 (2 : Int)]] (Int.toNat (bits BinOp.and IntKind.i64 (Int.fdiv (kS (listOf Int (rowsOn l)) (1 : Int)) (1 : Int)) (3 : Int))))) (0 : Nat) D.nilp) == (2 : Int))
   (VC.br (decide (IntKind.wrap IntKind.i64 (sec + w) ≤ (2 : Int)))
    (FnA.at_ a_make 0 (F_mk0 l w win (asInt (List.getD (List.drop (0 : Nat) (rowAt [[D.int IntKind.i64 (0 : Int)], [D.int IntKind.i64 (0 : Int)], [D.int IntKind.i64 (1 : Int)], [D.int IntKind.i64 (2 : Int)]] (Int.toNat (bits BinOp.and IntKind.i64 (Int.fdiv (kS (listOf Int (rowsOn l)) (1 : Int)) (1 : Int)) (3 : Int))))) (0 : Nat) D.nilp)) (0 : Int) (0 : Int) (0 : Int) pub (IntKind.wrap IntKind.i64 (sec + w)) (1 : Int)))
    (FnA.at_ a_make 0 (F_mk0 l w win (0 : Int) (0 : Int) (0 : Int) (0 : Int) pub sec (1 : Int))))
   (FnA.at_ a_make 0 (F_mk0 l w win (0 : Int) (0 : Int) (0 : Int) (0 : Int) pub sec (1 : Int)))))
 (VC.br (asInt (List.getD (List.drop (0 : Nat) (rowAt [[D.int IntKind.i64 (0 : Int)], [D.int IntKind.i64 (0 : Int)], [D.int IntKind.i64 (1 : Int)], [D.int IntKind.i64 (2 : Int)]] (Int.toNat (bits BinOp.and IntKind.i64 (Int.fdiv (kS (listOf Int (rowsOn l)) (1 : Int)) (1 : Int)) (3 : Int))))) (0 : Nat) D.nilp) == (2 : Int))
  (VC.br (decide (IntKind.wrap IntKind.i64 (sec + w) ≤ (2 : Int)))
   (FnA.at_ a_make 0 (F_mk0 l w win (asInt (List.getD (List.drop (0 : Nat) (rowAt [[D.int IntKind.i64 (0 : Int)], [D.int IntKind.i64 (0 : Int)], [D.int IntKind.i64 (1 : Int)], [D.int IntKind.i64 (2 : Int)]] (Int.toNat (bits BinOp.and IntKind.i64 (Int.fdiv (kS (listOf Int (rowsOn l)) (1 : Int)) (1 : Int)) (3 : Int))))) (0 : Nat) D.nilp)) (0 : Int) (0 : Int) (0 : Int) pub (IntKind.wrap IntKind.i64 (sec + w)) (1 : Int)))
   (FnA.at_ a_make 0 (F_mk0 l w win (0 : Int) (0 : Int) (0 : Int) (0 : Int) pub sec (1 : Int))))
  (FnA.at_ a_make 0 (F_mk0 l w win (0 : Int) (0 : Int) (0 : Int) (0 : Int) pub sec (1 : Int))))))))) := by kernel_rfl
set_option maxRecDepth 100000 in
theorem t_mk01 (l : List Int) (w win r0 pub sec : Int) : a_make.round s_make 400 0 (F_mk0 l w win r0 0 0 0 pub sec 1) =
(VC.need (PreOk c_mkk (l, (1 : Int)) [A.c (D.int IntKind.i64 (1 : Int)), A.c (D.rptr [D.sl (rowsOn l)])])
(VC.need ((0 : Int) ≤ (2 : Int))
(VC.need ((0 : Int) ≤ bits BinOp.and IntKind.i64 (Int.fdiv (kS (listOf Int (rowsOn l)) (1 : Int)) (4 : Int)) (3 : Int) ∧ bits BinOp.and IntKind.i64 (Int.fdiv (kS (listOf Int (rowsOn l)) (1 : Int)) (4 : Int)) (3 : Int) < (4 : Int))
(VC.need (Int.toNat (bits BinOp.and IntKind.i64 (Int.fdiv (kS (listOf Int (rowsOn l)) (1 : Int)) (4 : Int)) (3 : Int)) < (4 : Nat) ∧ List.length (rowAt [[D.int IntKind.i64 (0 : Int)], [D.int IntKind.i64 (0 : Int)], [D.int IntKind.i64 (1 : Int)], [D.int IntKind.i64 (2 : Int)]] (Int.toNat (bits BinOp.and IntKind.i64 (Int.fdiv (kS (listOf Int (rowsOn l)) (1 : Int)) (4 : Int)) (3 : Int)))) = (1 : Nat) ∧ okSh [Kd.int IntKind.i64] (List.drop (0 : Nat) (rowAt [[D.int IntKind.i64 (0 : Int)], [D.int IntKind.i64 (0 : Int)], [D.int IntKind.i64 (1 : Int)], [D.int IntKind.i64 (2 : Int)]] (Int.toNat (bits BinOp.and IntKind.i64 (Int.fdiv (kS (listOf Int (rowsOn l)) (1 : Int)) (4 : Int)) (3 : Int))))))
(VC.br (asInt (List.getD (List.drop (0 : Nat) (rowAt [[D.int IntKind.i64 (0 : Int)], [D.int IntKind.i64 (0 : Int)], [D.int IntKind.i64 (1 : Int)], [D.int IntKind.i64 (2 : Int)]] (Int.toNat (bits BinOp.and IntKind.i64 (Int.fdiv (kS (listOf Int (rowsOn l)) (1 : Int)) (4 : Int)) (3 : Int))))) (0 : Nat) D.nilp) == (1 : Int))
 (VC.br (decide (IntKind.wrap IntKind.i64 (pub + w) ≤ (2 : Int)))
  (FnA.at_ a_make 0 (F_mk0 l w win r0 (asInt (List.getD (List.drop (0 : Nat) (rowAt [[D.int IntKind.i64 (0 : Int)], [D.int IntKind.i64 (0 : Int)], [D.int IntKind.i64 (1 : Int)], [D.int IntKind.i64 (2 : Int)]] (Int.toNat (bits BinOp.and IntKind.i64 (Int.fdiv (kS (listOf Int (rowsOn l)) (1 : Int)) (4 : Int)) (3 : Int))))) (0 : Nat) D.nilp)) (0 : Int) (0 : Int) (IntKind.wrap IntKind.i64 (pub + w)) sec (2 : Int)))
  (VC.br (asInt (List.getD (List.drop (0 : Nat) (rowAt [[D.int IntKind.i64 (0 : Int)], [D.int IntKind.i64 (0 : Int)], [D.int IntKind.i64 (1 : Int)], [D.int IntKind.i64 (2 : Int)]] (Int.toNat (bits BinOp.and IntKind.i64 (Int.fdiv (kS (listOf Int (rowsOn l)) (1 : Int)) (4 : Int)) (3 : Int))))) (0 : Nat) D.nilp) == (2 : Int))
   (VC.br (decide (IntKind.wrap IntKind.i64 (sec + w) ≤ (2 : Int)))
    (FnA.at_ a_make 0 (F_mk0 l w win r0 (asInt (List.getD (List.drop (0 : Nat) (rowAt [[D.int IntKind.i64 (0 : Int)], [D.int IntKind.i64 (0 : Int)], [D.int IntKind.i64 (1 : Int)], [D.int IntKind.i64 (2 : Int)]] (Int.toNat (bits BinOp.and IntKind.i64 (Int.fdiv (kS (listOf Int (rowsOn l)) (1 : Int)) (4 : Int)) (3 : Int))))) (0 : Nat) D.nilp)) (0 : Int) (0 : Int) pub (IntKind.wrap IntKind.i64 (sec + w)) (2 : Int)))
    (FnA.at_ a_make 0 (F_mk0 l w win r0 (0 : Int) (0 : Int) (0 : Int) pub sec (2 : Int))))
   (FnA.at_ a_make 0 (F_mk0 l w win r0 (0 : Int) (0 : Int) (0 : Int) pub sec (2 : Int)))))
 (VC.br (asInt (List.getD (List.drop (0 : Nat) (rowAt [[D.int IntKind.i64 (0 : Int)], [D.int IntKind.i64 (0 : Int)], [D.int IntKind.i64 (1 : Int)], [D.int IntKind.i64 (2 : Int)]] (Int.toNat (bits BinOp.and IntKind.i64 (Int.fdiv (kS (listOf Int (rowsOn l)) (1 : Int)) (4 : Int)) (3 : Int))))) (0 : Nat) D.nilp) == (2 : Int))
  (VC.br (decide (IntKind.wrap IntKind.i64 (sec + w) ≤ (2 : Int)))
   (FnA.at_ a_make 0 (F_mk0 l w win r0 (asInt (List.getD (List.drop (0 : Nat) (rowAt [[D.int IntKind.i64 (0 : Int)], [D.int IntKind.i64 (0 : Int)], [D.int IntKind.i64 (1 : Int)], [D.int IntKind.i64 (2 : Int)]] (Int.toNat (bits BinOp.and IntKind.i64 (Int.fdiv (kS (listOf Int (rowsOn l)) (1 : Int)) (4 : Int)) (3 : Int))))) (0 : Nat) D.nilp)) (0 : Int) (0 : Int) pub (IntKind.wrap IntKind.i64 (sec + w)) (2 : Int)))
   (FnA.at_ a_make 0 (F_mk0 l w win r0 (0 : Int) (0 : Int) (0 : Int) pub sec (2 : Int))))
  (FnA.at_ a_make 0 (F_mk0 l w win r0 (0 : Int) (0 : Int) (0 : Int) pub sec (2 : Int))))))))) := by kernel_rfl
set_option maxRecDepth 100000 in
theorem t_mk02 (l : List Int) (w win r0 r1 pub sec : Int) : a_make.round s_make 400 0 (F_mk0 l w win r0 r1 0 0 pub sec 2) =
(VC.need (PreOk c_mkk (l, (1 : Int)) [A.c (D.int IntKind.i64 (1 : Int)), A.c (D.rptr [D.sl (rowsOn l)])])
(VC.need ((0 : Int) ≤ (4 : Int))
(VC.need ((0 : Int) ≤ bits BinOp.and IntKind.i64 (Int.fdiv (kS (listOf Int (rowsOn l)) (1 : Int)) (16 : Int)) (3 : Int) ∧ bits BinOp.and IntKind.i64 (Int.fdiv (kS (listOf Int (rowsOn l)) (1 : Int)) (16 : Int)) (3 : Int) < (4 : Int))
(VC.need (Int.toNat (bits BinOp.and IntKind.i64 (Int.fdiv (kS (listOf Int (rowsOn l)) (1 : Int)) (16 : Int)) (3 : Int)) < (4 : Nat) ∧ List.length (rowAt [[D.int IntKind.i64 (0 : Int)], [D.int IntKind.i64 (0 : Int)], [D.int IntKind.i64 (1 : Int)], [D.int IntKind.i64 (2 : Int)]] (Int.toNat (bits BinOp.and IntKind.i64 (Int.fdiv (kS (listOf Int (rowsOn l)) (1 : Int)) (16 : Int)) (3 : Int)))) = (1 : Nat) ∧ okSh [Kd.int IntKind.i64] (List.drop (0 : Nat) (rowAt [[D.int IntKind.i64 (0 : Int)], [D.int IntKind.i64 (0 : Int)], [D.int IntKind.i64 (1 : Int)], [D.int IntKind.i64 (2 : Int)]] (Int.toNat (bits BinOp.and IntKind.i64 (Int.fdiv (kS (listOf Int (rowsOn l)) (1 : Int)) (16 : Int)) (3 : Int))))))
(VC.br (asInt (List.getD (List.drop (0 : Nat) (rowAt [[D.int IntKind.i64 (0 : Int)], [D.int IntKind.i64 (0 : Int)], [D.int IntKind.i64 (1 : Int)], [D.int IntKind.i64 (2 : Int)]] (Int.toNat (bits BinOp.and IntKind.i64 (Int.fdiv (kS (listOf Int (rowsOn l)) (1 : Int)) (16 : Int)) (3 : Int))))) (0 : Nat) D.nilp) == (1 : Int))
 (VC.br (decide (IntKind.wrap IntKind.i64 (pub + w) ≤ (2 : Int)))
  (FnA.at_ a_make 0 (F_mk0 l w win r0 r1 (asInt (List.getD (List.drop (0 : Nat) (rowAt [[D.int IntKind.i64 (0 : Int)], [D.int IntKind.i64 (0 : Int)], [D.int IntKind.i64 (1 : Int)], [D.int IntKind.i64 (2 : Int)]] (Int.toNat (bits BinOp.and IntKind.i64 (Int.fdiv (kS (listOf Int (rowsOn l)) (1 : Int)) (16 : Int)) (3 : Int))))) (0 : Nat) D.nilp)) (0 : Int) (IntKind.wrap IntKind.i64 (pub + w)) sec (3 : Int)))
  (VC.br (asInt (List.getD (List.drop (0 : Nat) (rowAt [[D.int IntKind.i64 (0 : Int)], [D.int IntKind.i64 (0 : Int)], [D.int IntKind.i64 (1 : Int)], [D.int IntKind.i64 (2 : Int)]] (Int.toNat (bits BinOp.and IntKind.i64 (Int.fdiv (kS (listOf Int (rowsOn l)) (1 : Int)) (16 : Int)) (3 : Int))))) (0 : Nat) D.nilp) == (2 : Int))
   (VC.br (decide (IntKind.wrap IntKind.i64 (sec + w) ≤ (2 : Int)))
    (FnA.at_ a_make 0 (F_mk0 l w win r0 r1 (asInt (List.getD (List.drop (0 : Nat) (rowAt [[D.int IntKind.i64 (0 : Int)], [D.int IntKind.i64 (0 : Int)], [D.int IntKind.i64 (1 : Int)], [D.int IntKind.i64 (2 : Int)]] (Int.toNat (bits BinOp.and IntKind.i64 (Int.fdiv (kS (listOf Int (rowsOn l)) (1 : Int)) (16 : Int)) (3 : Int))))) (0 : Nat) D.nilp)) (0 : Int) pub (IntKind.wrap IntKind.i64 (sec + w)) (3 : Int)))
    (FnA.at_ a_make 0 (F_mk0 l w win r0 r1 (0 : Int) (0 : Int) pub sec (3 : Int))))
   (FnA.at_ a_make 0 (F_mk0 l w win r0 r1 (0 : Int) (0 : Int) pub sec (3 : Int)))))
 (VC.br (asInt (List.getD (List.drop (0 : Nat) (rowAt [[D.int IntKind.i64 (0 : Int)], [D.int IntKind.i64 (0 : Int)], [D.int IntKind.i64 (1 : Int)], [D.int IntKind.i64 (2 : Int)]] (Int.toNat (bits BinOp.and IntKind.i64 (Int.fdiv (kS (listOf Int (rowsOn l)) (1 : Int)) (16 : Int)) (3 : Int))))) (0 : Nat) D.nilp) == (2 : Int))
  (VC.br (decide (IntKind.wrap IntKind.i64 (sec + w) ≤ (2 : Int)))
   (FnA.at_ a_make 0 (F_mk0 l w win r0 r1 (asInt (List.getD (List.drop (0 : Nat) (rowAt [[D.int IntKind.i64 (0 : Int)], [D.int IntKind.i64 (0 : Int)], [D.int IntKind.i64 (1 : Int)], [D.int IntKind.i64 (2 : Int)]] (Int.toNat (bits BinOp.and IntKind.i64 (Int.fdiv (kS (listOf Int (rowsOn l)) (1 : Int)) (16 : Int)) (3 : Int))))) (0 : Nat) D.nilp)) (0 : Int) pub (IntKind.wrap IntKind.i64 (sec + w)) (3 : Int)))
   (FnA.at_ a_make 0 (F_mk0 l w win r0 r1 (0 : Int) (0 : Int) pub sec (3 : Int))))
  (FnA.at_ a_make 0 (F_mk0 l w win r0 r1 (0 : Int) (0 : Int) pub sec (3 : Int))))))))) := by kernel_rfl
set_option maxRecDepth 100000 in
theorem t_mk03 (l : List Int) (w win r0 r1 r2 pub sec : Int) : a_make.round s_make 400 0 (F_mk0 l w win r0 r1 r2 0 pub sec 3) =
(VC.need (PreOk c_mkk (l, (1 : Int)) [A.c (D.int IntKind.i64 (1 : Int)), A.c (D.rptr [D.sl (rowsOn l)])])
(VC.need ((0 : Int) ≤ (6 : Int))
(VC.need ((0 : Int) ≤ bits BinOp.and IntKind.i64 (Int.fdiv (kS (listOf Int (rowsOn l)) (1 : Int)) (64 : Int)) (3 : Int) ∧ bits BinOp.and IntKind.i64 (Int.fdiv (kS (listOf Int (rowsOn l)) (1 : Int)) (64 : Int)) (3 : Int) < (4 : Int))
(VC.need (Int.toNat (bits BinOp.and IntKind.i64 (Int.fdiv (kS (listOf Int (rowsOn l)) (1 : Int)) (64 : Int)) (3 : Int)) < (4 : Nat) ∧ List.length (rowAt [[D.int IntKind.i64 (0 : Int)], [D.int IntKind.i64 (0 : Int)], [D.int IntKind.i64 (1 : Int)], [D.int IntKind.i64 (2 : Int)]] (Int.toNat (bits BinOp.and IntKind.i64 (Int.fdiv (kS (listOf Int (rowsOn l)) (1 : Int)) (64 : Int)) (3 : Int)))) = (1 : Nat) ∧ okSh [Kd.int IntKind.i64] (List.drop (0 : Nat) (rowAt [[D.int IntKind.i64 (0 : Int)], [D.int IntKind.i64 (0 : Int)], [D.int IntKind.i64 (1 : Int)], [D.int IntKind.i64 (2 : Int)]] (Int.toNat (bits BinOp.and IntKind.i64 (Int.fdiv (kS (listOf Int (rowsOn l)) (1 : Int)) (64 : Int)) (3 : Int))))))
(VC.br (asInt (List.getD (List.drop (0 : Nat) (rowAt [[D.int IntKind.i64 (0 : Int)], [D.int IntKind.i64 (0 : Int)], [D.int IntKind.i64 (1 : Int)], [D.int IntKind.i64 (2 : Int)]] (Int.toNat (bits BinOp.and IntKind.i64 (Int.fdiv (kS (listOf Int (rowsOn l)) (1 : Int)) (64 : Int)) (3 : Int))))) (0 : Nat) D.nilp) == (1 : Int))
 (VC.br (decide (IntKind.wrap IntKind.i64 (pub + w) ≤ (2 : Int)))
  (FnA.at_ a_make 0 (F_mk0 l w win r0 r1 r2 (asInt (List.getD (List.drop (0 : Nat) (rowAt [[D.int IntKind.i64 (0 : Int)], [D.int IntKind.i64 (0 : Int)], [D.int IntKind.i64 (1 : Int)], [D.int IntKind.i64 (2 : Int)]] (Int.toNat (bits BinOp.and IntKind.i64 (Int.fdiv (kS (listOf Int (rowsOn l)) (1 : Int)) (64 : Int)) (3 : Int))))) (0 : Nat) D.nilp)) (IntKind.wrap IntKind.i64 (pub + w)) sec (4 : Int)))
  (VC.br (asInt (List.getD (List.drop (0 : Nat) (rowAt [[D.int IntKind.i64 (0 : Int)], [D.int IntKind.i64 (0 : Int)], [D.int IntKind.i64 (1 : Int)], [D.int IntKind.i64 (2 : Int)]] (Int.toNat (bits BinOp.and IntKind.i64 (Int.fdiv (kS (listOf Int (rowsOn l)) (1 : Int)) (64 : Int)) (3 : Int))))) (0 : Nat) D.nilp) == (2 : Int))
   (VC.br (decide (IntKind.wrap IntKind.i64 (sec + w) ≤ (2 : Int)))
    (FnA.at_ a_make 0 (F_mk0 l w win r0 r1 r2 (asInt (List.getD (List.drop (0 : Nat) (rowAt [[D.int IntKind.i64 (0 : Int)], [D.int IntKind.i64 (0 : Int)], [D.int IntKind.i64 (1 : Int)], [D.int IntKind.i64 (2 : Int)]] (Int.toNat (bits BinOp.and IntKind.i64 (Int.fdiv (kS (listOf Int (rowsOn l)) (1 : Int)) (64 : Int)) (3 : Int))))) (0 : Nat) D.nilp)) pub (IntKind.wrap IntKind.i64 (sec + w)) (4 : Int)))
    (FnA.at_ a_make 0 (F_mk0 l w win r0 r1 r2 (0 : Int) pub sec (4 : Int))))
   (FnA.at_ a_make 0 (F_mk0 l w win r0 r1 r2 (0 : Int) pub sec (4 : Int)))))
 (VC.br (asInt (List.getD (List.drop (0 : Nat) (rowAt [[D.int IntKind.i64 (0 : Int)], [D.int IntKind.i64 (0 : Int)], [D.int IntKind.i64 (1 : Int)], [D.int IntKind.i64 (2 : Int)]] (Int.toNat (bits BinOp.and IntKind.i64 (Int.fdiv (kS (listOf Int (rowsOn l)) (1 : Int)) (64 : Int)) (3 : Int))))) (0 : Nat) D.nilp) == (2 : Int))
  (VC.br (decide (IntKind.wrap IntKind.i64 (sec + w) ≤ (2 : Int)))
   (FnA.at_ a_make 0 (F_mk0 l w win r0 r1 r2 (asInt (List.getD (List.drop (0 : Nat) (rowAt [[D.int IntKind.i64 (0 : Int)], [D.int IntKind.i64 (0 : Int)], [D.int IntKind.i64 (1 : Int)], [D.int IntKind.i64 (2 : Int)]] (Int.toNat (bits BinOp.and IntKind.i64 (Int.fdiv (kS (listOf Int (rowsOn l)) (1 : Int)) (64 : Int)) (3 : Int))))) (0 : Nat) D.nilp)) pub (IntKind.wrap IntKind.i64 (sec + w)) (4 : Int)))
   (FnA.at_ a_make 0 (F_mk0 l w win r0 r1 r2 (0 : Int) pub sec (4 : Int))))
  (FnA.at_ a_make 0 (F_mk0 l w win r0 r1 r2 (0 : Int) pub sec (4 : Int))))))))) := by kernel_rfl
set_option maxRecDepth 100000 in
theorem t_mk04 (l : List Int) (w win r0 r1 r2 r3 pub sec : Int) : a_make.round s_make 400 0 (F_mk0 l w win r0 r1 r2 r3 pub sec 4) =
(VC.need (PreOk c_mkk (l, (1 : Int)) [A.c (D.int IntKind.i64 (1 : Int)), A.c (D.rptr [D.sl (rowsOn l)])])
(VC.need ((0 : Int) ≤ (8 : Int))
(VC.br (decide ((0 : Int) < bits BinOp.and IntKind.i64 (Int.fdiv (kS (listOf Int (rowsOn l)) (1 : Int)) (256 : Int)) (3 : Int)))
 (VC.need ((List.all [[D.str { data := #[(109 : UInt8)] }, D.bool false, D.int IntKind.i64 (1 : Int)]] fun r ↦ List.length r == (3 : Nat)) = true ∧ (List.all ([] : List (List D)) fun r ↦ List.length r == (3 : Nat)) = true ∧ (3333 : Nat) ≤ (70368744177664 : Nat))
 (VC.br (w == (1 : Int))
  (VC.need (PreOk c_mkk (l, (1 : Int)) [A.c (D.int IntKind.i64 (1 : Int)), A.c (D.rptr [D.sl (rowsOn l)])])
  (VC.need ((0 : Int) ≤ (10 : Int))
  (VC.br (bits BinOp.and IntKind.i64 (Int.fdiv (kS (listOf Int (rowsOn l)) (1 : Int)) (1024 : Int)) (3 : Int) == (0 : Int))
   (VC.need ((0 : Int) ≤ (0 : Int) ∧ (0 : Int) < (1 : Int))
   (VC.need ((0 : Nat) < (1 : Nat) ∧ (3 : Nat) = (3 : Nat) ∧ (3 : Nat) ≤ (3 : Nat))
   (VC.need (PreOk c_mkk (l, (1 : Int)) [A.c (D.int IntKind.i64 (1 : Int)), A.c (D.rptr [D.sl (rowsOn l)])])
   (VC.need ((0 : Int) ≤ (12 : Int))
   (VC.br (decide ((0 : Int) < bits BinOp.and IntKind.i64 (Int.fdiv (kS (listOf Int (rowsOn l)) (1 : Int)) (4096 : Int)) (3 : Int)))
    (VC.br (decide (IntKind.wrap IntKind.i64 (sec + w) ≤ (3 : Int)))
     (VC.need ((0 : Int) ≤ (0 : Int) ∧ (0 : Int) < (1 : Int))
     (VC.need ((0 : Nat) < (1 : Nat) ∧ (3 : Nat) = (3 : Nat) ∧ okSh [Kd.int IntKind.i64] [D.int IntKind.i64 (2 : Int)])
     (VC.need (PreOk c_mkk (l, (0 : Int)) [A.c (D.int IntKind.i64 (0 : Int)), A.c (D.rptr [D.sl (rowsOn l)])])
     (VC.need ((0 : Int) ≤ (12 : Int))
     (FnA.at_ a_make 1 (F_mk1 l w win r0 r1 r2 r3 [[D.str { data := #[(109 : UInt8)] }, D.bool false, D.int IntKind.i64 (2 : Int)]] [] [] (1 : Nat) (0 : Nat) (0 : Nat) (IntKind.wrap IntKind.i64 (bits BinOp.and IntKind.i64 (Int.fdiv (kS (listOf Int (rowsOn l)) (0 : Int)) (4096 : Int)) (3 : Int) + (2 : Int))) (0 : Int)))))))
     (VC.need (PreOk c_mkk (l, (0 : Int)) [A.c (D.int IntKind.i64 (0 : Int)), A.c (D.rptr [D.sl (rowsOn l)])])
     (VC.need ((0 : Int) ≤ (12 : Int))
     (FnA.at_ a_make 1 (F_mk1 l w win r0 r1 r2 r3 [[D.str { data := #[(109 : UInt8)] }, D.bool false, D.int IntKind.i64 (2 : Int)]] [] [] (1 : Nat) (0 : Nat) (0 : Nat) (IntKind.wrap IntKind.i64 (bits BinOp.and IntKind.i64 (Int.fdiv (kS (listOf Int (rowsOn l)) (0 : Int)) (4096 : Int)) (3 : Int) + (2 : Int))) (0 : Int))))))
    (VC.need (PreOk c_mkk (l, (0 : Int)) [A.c (D.int IntKind.i64 (0 : Int)), A.c (D.rptr [D.sl (rowsOn l)])])
    (VC.need ((0 : Int) ≤ (12 : Int))
    (FnA.at_ a_make 1 (F_mk1 l w win r0 r1 r2 r3 [[D.str { data := #[(109 : UInt8)] }, D.bool false, D.int IntKind.i64 (2 : Int)]] [] [] (1 : Nat) (0 : Nat) (0 : Nat) (IntKind.wrap IntKind.i64 (bits BinOp.and IntKind.i64 (Int.fdiv (kS (listOf Int (rowsOn l)) (0 : Int)) (4096 : Int)) (3 : Int) + (2 : Int))) (0 : Int))))))))))
   (VC.need (PreOk c_mkk (l, (1 : Int)) [A.c (D.int IntKind.i64 (1 : Int)), A.c (D.rptr [D.sl (rowsOn l)])])
   (VC.need ((0 : Int) ≤ (12 : Int))
   (VC.br (decide ((0 : Int) < bits BinOp.and IntKind.i64 (Int.fdiv (kS (listOf Int (rowsOn l)) (1 : Int)) (4096 : Int)) (3 : Int)))
    (VC.br (decide (IntKind.wrap IntKind.i64 (sec + w) ≤ (3 : Int)))
     (VC.need ((0 : Int) ≤ (0 : Int) ∧ (0 : Int) < (1 : Int))
     (VC.need ((0 : Nat) < (1 : Nat) ∧ (3 : Nat) = (3 : Nat) ∧ okSh [Kd.int IntKind.i64] [D.int IntKind.i64 (1 : Int)])
     (VC.need ((List.all [[D.str { data := #[(115 : UInt8)] }, D.bool true, D.int IntKind.i64 (1 : Int)]] fun r ↦ List.length r == (3 : Nat)) = true ∧ (List.all [[D.str { data := #[(109 : UInt8)] }, D.bool false, D.int IntKind.i64 (1 : Int)]] fun r ↦ List.length r == (3 : Nat)) = true ∧ (3366 : Nat) ≤ (70368744177664 : Nat))
     (VC.need (PreOk c_mkk (l, (0 : Int)) [A.c (D.int IntKind.i64 (0 : Int)), A.c (D.rptr [D.sl (rowsOn l)])])
     (VC.need ((0 : Int) ≤ (12 : Int))
     (FnA.at_ a_make 1 (F_mk1 l w win r0 r1 r2 r3 [[D.str { data := #[(109 : UInt8)] }, D.bool false, D.int IntKind.i64 (1 : Int)], [D.str { data := #[(115 : UInt8)] }, D.bool true, D.int IntKind.i64 (1 : Int)]] [] [] (2 : Nat) (0 : Nat) (0 : Nat) (IntKind.wrap IntKind.i64 (bits BinOp.and IntKind.i64 (Int.fdiv (kS (listOf Int (rowsOn l)) (0 : Int)) (4096 : Int)) (3 : Int) + (2 : Int))) (0 : Int))))))))
     (VC.need (PreOk c_mkk (l, (0 : Int)) [A.c (D.int IntKind.i64 (0 : Int)), A.c (D.rptr [D.sl (rowsOn l)])])
     (VC.need ((0 : Int) ≤ (12 : Int))
     (FnA.at_ a_make 1 (F_mk1 l w win r0 r1 r2 r3 [[D.str { data := #[(109 : UInt8)] }, D.bool false, D.int IntKind.i64 (1 : Int)]] [] [] (1 : Nat) (0 : Nat) (0 : Nat) (IntKind.wrap IntKind.i64 (bits BinOp.and IntKind.i64 (Int.fdiv (kS (listOf Int (rowsOn l)) (0 : Int)) (4096 : Int)) (3 : Int) + (2 : Int))) (0 : Int))))))
    (VC.need (PreOk c_mkk (l, (0 : Int)) [A.c (D.int IntKind.i64 (0 : Int)), A.c (D.rptr [D.sl (rowsOn l)])])
    (VC.need ((0 : Int) ≤ (12 : Int))
    (FnA.at_ a_make 1 (F_mk1 l w win r0 r1 r2 r3 [[D.str { data := #[(109 : UInt8)] }, D.bool false, D.int IntKind.i64 (1 : Int)]] [] [] (1 : Nat) (0 : Nat) (0 : Nat) (IntKind.wrap IntKind.i64 (bits BinOp.and IntKind.i64 (Int.fdiv (kS (listOf Int (rowsOn l)) (0 : Int)) (4096 : Int)) (3 : Int) + (2 : Int))) (0 : Int)))))))))))
  (VC.need (PreOk c_mkk (l, (1 : Int)) [A.c (D.int IntKind.i64 (1 : Int)), A.c (D.rptr [D.sl (rowsOn l)])])
  (VC.need ((0 : Int) ≤ (12 : Int))
  (VC.br (decide ((0 : Int) < bits BinOp.and IntKind.i64 (Int.fdiv (kS (listOf Int (rowsOn l)) (1 : Int)) (4096 : Int)) (3 : Int)))
   (VC.br (decide (IntKind.wrap IntKind.i64 (sec + w) ≤ (3 : Int)))
    (VC.need ((0 : Int) ≤ (0 : Int) ∧ (0 : Int) < (1 : Int))
    (VC.need ((0 : Nat) < (1 : Nat) ∧ (3 : Nat) = (3 : Nat) ∧ okSh [Kd.int IntKind.i64] [D.int IntKind.i64 (1 : Int)])
    (VC.need ((List.all [[D.str { data := #[(115 : UInt8)] }, D.bool true, D.int IntKind.i64 (1 : Int)]] fun r ↦ List.length r == (3 : Nat)) = true ∧ (List.all [[D.str { data := #[(109 : UInt8)] }, D.bool false, D.int IntKind.i64 (1 : Int)]] fun r ↦ List.length r == (3 : Nat)) = true ∧ (3366 : Nat) ≤ (70368744177664 : Nat))
    (VC.need (PreOk c_mkk (l, (0 : Int)) [A.c (D.int IntKind.i64 (0 : Int)), A.c (D.rptr [D.sl (rowsOn l)])])
    (VC.need ((0 : Int) ≤ (12 : Int))
    (FnA.at_ a_make 1 (F_mk1 l w win r0 r1 r2 r3 [[D.str { data := #[(109 : UInt8)] }, D.bool false, D.int IntKind.i64 (1 : Int)], [D.str { data := #[(115 : UInt8)] }, D.bool true, D.int IntKind.i64 (1 : Int)]] [] [] (2 : Nat) (0 : Nat) (0 : Nat) (IntKind.wrap IntKind.i64 (bits BinOp.and IntKind.i64 (Int.fdiv (kS (listOf Int (rowsOn l)) (0 : Int)) (4096 : Int)) (3 : Int) + (2 : Int))) (0 : Int))))))))
    (VC.need (PreOk c_mkk (l, (0 : Int)) [A.c (D.int IntKind.i64 (0 : Int)), A.c (D.rptr [D.sl (rowsOn l)])])
    (VC.need ((0 : Int) ≤ (12 : Int))
    (FnA.at_ a_make 1 (F_mk1 l w win r0 r1 r2 r3 [[D.str { data := #[(109 : UInt8)] }, D.bool false, D.int IntKind.i64 (1 : Int)]] [] [] (1 : Nat) (0 : Nat) (0 : Nat) (IntKind.wrap IntKind.i64 (bits BinOp.and IntKind.i64 (Int.fdiv (kS (listOf Int (rowsOn l)) (0 : Int)) (4096 : Int)) (3 : Int) + (2 : Int))) (0 : Int))))))
   (VC.need (PreOk c_mkk (l, (0 : Int)) [A.c (D.int IntKind.i64 (0 : Int)), A.c (D.rptr [D.sl (rowsOn l)])])
   (VC.need ((0 : Int) ≤ (12 : Int))
   (FnA.at_ a_make 1 (F_mk1 l w win r0 r1 r2 r3 [[D.str { data := #[(109 : UInt8)] }, D.bool false, D.int IntKind.i64 (1 : Int)]] [] [] (1 : Nat) (0 : Nat) (0 : Nat) (IntKind.wrap IntKind.i64 (bits BinOp.and IntKind.i64 (Int.fdiv (kS (listOf Int (rowsOn l)) (0 : Int)) (4096 : Int)) (3 : Int) + (2 : Int))) (0 : Int))))))))))
 (VC.need (PreOk c_mkk (l, (1 : Int)) [A.c (D.int IntKind.i64 (1 : Int)), A.c (D.rptr [D.sl (rowsOn l)])])
 (VC.need ((0 : Int) ≤ (12 : Int))
 (VC.br (decide ((0 : Int) < bits BinOp.and IntKind.i64 (Int.fdiv (kS (listOf Int (rowsOn l)) (1 : Int)) (4096 : Int)) (3 : Int)))
  (VC.br (decide (IntKind.wrap IntKind.i64 (sec + w) ≤ (3 : Int)))
   (VC.need ((List.all [[D.str { data := #[(115 : UInt8)] }, D.bool true, D.int IntKind.i64 (1 : Int)]] fun r ↦ List.length r == (3 : Nat)) = true ∧ (List.all ([] : List (List D)) fun r ↦ List.length r == (3 : Nat)) = true ∧ (3333 : Nat) ≤ (70368744177664 : Nat))
   (VC.need (PreOk c_mkk (l, (0 : Int)) [A.c (D.int IntKind.i64 (0 : Int)), A.c (D.rptr [D.sl (rowsOn l)])])
   (VC.need ((0 : Int) ≤ (12 : Int))
   (FnA.at_ a_make 1 (F_mk1 l w win r0 r1 r2 r3 [[D.str { data := #[(115 : UInt8)] }, D.bool true, D.int IntKind.i64 (1 : Int)]] [] [] (1 : Nat) (0 : Nat) (0 : Nat) (IntKind.wrap IntKind.i64 (bits BinOp.and IntKind.i64 (Int.fdiv (kS (listOf Int (rowsOn l)) (0 : Int)) (4096 : Int)) (3 : Int) + (2 : Int))) (0 : Int))))))
   (VC.need (PreOk c_mkk (l, (0 : Int)) [A.c (D.int IntKind.i64 (0 : Int)), A.c (D.rptr [D.sl (rowsOn l)])])
   (VC.need ((0 : Int) ≤ (12 : Int))
   (FnA.at_ a_make 1 (F_mk1 l w win r0 r1 r2 r3 [] [] [] (0 : Nat) (0 : Nat) (0 : Nat) (IntKind.wrap IntKind.i64 (bits BinOp.and IntKind.i64 (Int.fdiv (kS (listOf Int (rowsOn l)) (0 : Int)) (4096 : Int)) (3 : Int) + (2 : Int))) (0 : Int))))))
  (VC.need (PreOk c_mkk (l, (0 : Int)) [A.c (D.int IntKind.i64 (0 : Int)), A.c (D.rptr [D.sl (rowsOn l)])])
  (VC.need ((0 : Int) ≤ (12 : Int))
  (FnA.at_ a_make 1 (F_mk1 l w win r0 r1 r2 r3 [] [] [] (0 : Nat) (0 : Nat) (0 : Nat) (IntKind.wrap IntKind.i64 (bits BinOp.and IntKind.i64 (Int.fdiv (kS (listOf Int (rowsOn l)) (0 : Int)) (4096 : Int)) (3 : Int) + (2 : Int))) (0 : Int))))))))))) := by kernel_rfl
set_option maxRecDepth 100000 in
theorem t_mk1 (l : List Int) (w win r0 r1 r2 r3 : Int) (M L I : List (List D)) (nm nl ni : Nat) (n i : Int) : a_make.round s_make 400 1 (F_mk1 l w win r0 r1 r2 r3 M L I nm nl ni n i) =
(VC.br (decide (i ≤ n))
 (VC.need (PreOk c_dig1 i [A.c (D.int IntKind.i64 i)])
 (VC.need ((1 : Nat) + ByteArray.size (digS i) ≤ (9223372036854775807 : Nat))
 (VC.need ((List.all [[D.str ({ data := #[(108 : UInt8)] } ++ digS i), D.int IntKind.i64 i]] fun r ↦ List.length r == (2 : Nat)) = true ∧ (List.all L fun r ↦ List.length r == (2 : Nat)) = true ∧ (List.length L + List.length [[D.str ({ data := #[(108 : UInt8)] } ++ digS i), D.int IntKind.i64 i]] + (100 : Nat)) * (25 : Nat) ≤ (70368744177664 : Nat))
 (FnA.at_ a_make 1 (F_mk1 l w win r0 r1 r2 r3 M (L ++ [[D.str ({ data := #[(108 : UInt8)] } ++ digS i), D.int IntKind.i64 i]]) I nm (List.length L + List.length [[D.str ({ data := #[(108 : UInt8)] } ++ digS i), D.int IntKind.i64 i]]) ni n (IntKind.wrap IntKind.i64 (i + (1 : Int))))))))
 (FnA.at_ a_make 2 (F_mk2 l w win r0 r1 r2 r3 M L I nm nl ni n (0 : Int)))) := by kernel_rfl
set_option maxRecDepth 100000 in
theorem t_mk2 (l : List Int) (w win r0 r1 r2 r3 : Int) (M L I : List (List D)) (nm nl ni : Nat) (n i : Int) : a_make.round s_make 400 2 (F_mk2 l w win r0 r1 r2 r3 M L I nm nl ni n i) =
(VC.br (decide (i < n))
 (VC.need (PreOk c_mkk (l, IntKind.wrap IntKind.i64 (i + (2 : Int))) [A.c (D.int IntKind.i64 (IntKind.wrap IntKind.i64 (i + (2 : Int)))), A.c (D.rptr [D.sl (rowsOn l)])])
 (VC.need (PreOk c_lins (kS l (IntKind.wrap IntKind.i64 (i + (2 : Int))), n) [A.c (D.int IntKind.i64 (kS (listOf Int (rowsOn l)) (IntKind.wrap IntKind.i64 (i + (2 : Int))))), A.c (D.int IntKind.i64 n)])
 (VC.need ((List.all [[D.int IntKind.i64 (insM (kS (listOf Int (rowsOn l)) (IntKind.wrap IntKind.i64 (i + (2 : Int)))) n).kind, D.int IntKind.i64 (insM (kS (listOf Int (rowsOn l)) (IntKind.wrap IntKind.i64 (i + (2 : Int)))) n).op, D.int IntKind.i64 (insM (kS (listOf Int (rowsOn l)) (IntKind.wrap IntKind.i64 (i + (2 : Int)))) n).d, D.bool (insM (kS (listOf Int (rowsOn l)) (IntKind.wrap IntKind.i64 (i + (2 : Int)))) n).aR, D.int IntKind.i64 (insM (kS (listOf Int (rowsOn l)) (IntKind.wrap IntKind.i64 (i + (2 : Int)))) n).aN, D.bool (insM (kS (listOf Int (rowsOn l)) (IntKind.wrap IntKind.i64 (i + (2 : Int)))) n).bR, D.int IntKind.i64 (insM (kS (listOf Int (rowsOn l)) (IntKind.wrap IntKind.i64 (i + (2 : Int)))) n).bN, D.str (insM (kS (listOf Int (rowsOn l)) (IntKind.wrap IntKind.i64 (i + (2 : Int)))) n).name, D.int IntKind.i64 (insM (kS (listOf Int (rowsOn l)) (IntKind.wrap IntKind.i64 (i + (2 : Int)))) n).target]] fun r ↦ List.length r == (9 : Nat)) = true ∧ (List.all I fun r ↦ List.length r == (9 : Nat)) = true ∧ (List.length I + List.length [[D.int IntKind.i64 (insM (kS (listOf Int (rowsOn l)) (IntKind.wrap IntKind.i64 (i + (2 : Int)))) n).kind, D.int IntKind.i64 (insM (kS (listOf Int (rowsOn l)) (IntKind.wrap IntKind.i64 (i + (2 : Int)))) n).op, D.int IntKind.i64 (insM (kS (listOf Int (rowsOn l)) (IntKind.wrap IntKind.i64 (i + (2 : Int)))) n).d, D.bool (insM (kS (listOf Int (rowsOn l)) (IntKind.wrap IntKind.i64 (i + (2 : Int)))) n).aR, D.int IntKind.i64 (insM (kS (listOf Int (rowsOn l)) (IntKind.wrap IntKind.i64 (i + (2 : Int)))) n).aN, D.bool (insM (kS (listOf Int (rowsOn l)) (IntKind.wrap IntKind.i64 (i + (2 : Int)))) n).bR, D.int IntKind.i64 (insM (kS (listOf Int (rowsOn l)) (IntKind.wrap IntKind.i64 (i + (2 : Int)))) n).bN, D.str (insM (kS (listOf Int (rowsOn l)) (IntKind.wrap IntKind.i64 (i + (2 : Int)))) n).name, D.int IntKind.i64 (insM (kS (listOf Int (rowsOn l)) (IntKind.wrap IntKind.i64 (i + (2 : Int)))) n).target]] + (100 : Nat)) * (81 : Nat) ≤ (70368744177664 : Nat))
 (FnA.at_ a_make 2 (F_mk2 l w win r0 r1 r2 r3 M L (I ++ [[D.int IntKind.i64 (insM (kS (listOf Int (rowsOn l)) (IntKind.wrap IntKind.i64 (i + (2 : Int)))) n).kind, D.int IntKind.i64 (insM (kS (listOf Int (rowsOn l)) (IntKind.wrap IntKind.i64 (i + (2 : Int)))) n).op, D.int IntKind.i64 (insM (kS (listOf Int (rowsOn l)) (IntKind.wrap IntKind.i64 (i + (2 : Int)))) n).d, D.bool (insM (kS (listOf Int (rowsOn l)) (IntKind.wrap IntKind.i64 (i + (2 : Int)))) n).aR, D.int IntKind.i64 (insM (kS (listOf Int (rowsOn l)) (IntKind.wrap IntKind.i64 (i + (2 : Int)))) n).aN, D.bool (insM (kS (listOf Int (rowsOn l)) (IntKind.wrap IntKind.i64 (i + (2 : Int)))) n).bR, D.int IntKind.i64 (insM (kS (listOf Int (rowsOn l)) (IntKind.wrap IntKind.i64 (i + (2 : Int)))) n).bN, D.str (insM (kS (listOf Int (rowsOn l)) (IntKind.wrap IntKind.i64 (i + (2 : Int)))) n).name, D.int IntKind.i64 (insM (kS (listOf Int (rowsOn l)) (IntKind.wrap IntKind.i64 (i + (2 : Int)))) n).target]]) nm nl (List.length I + List.length [[D.int IntKind.i64 (insM (kS (listOf Int (rowsOn l)) (IntKind.wrap IntKind.i64 (i + (2 : Int)))) n).kind, D.int IntKind.i64 (insM (kS (listOf Int (rowsOn l)) (IntKind.wrap IntKind.i64 (i + (2 : Int)))) n).op, D.int IntKind.i64 (insM (kS (listOf Int (rowsOn l)) (IntKind.wrap IntKind.i64 (i + (2 : Int)))) n).d, D.bool (insM (kS (listOf Int (rowsOn l)) (IntKind.wrap IntKind.i64 (i + (2 : Int)))) n).aR, D.int IntKind.i64 (insM (kS (listOf Int (rowsOn l)) (IntKind.wrap IntKind.i64 (i + (2 : Int)))) n).aN, D.bool (insM (kS (listOf Int (rowsOn l)) (IntKind.wrap IntKind.i64 (i + (2 : Int)))) n).bR, D.int IntKind.i64 (insM (kS (listOf Int (rowsOn l)) (IntKind.wrap IntKind.i64 (i + (2 : Int)))) n).bN, D.str (insM (kS (listOf Int (rowsOn l)) (IntKind.wrap IntKind.i64 (i + (2 : Int)))) n).name, D.int IntKind.i64 (insM (kS (listOf Int (rowsOn l)) (IntKind.wrap IntKind.i64 (i + (2 : Int)))) n).target]]) n (IntKind.wrap IntKind.i64 (i + (1 : Int))))))))
 (VC.ret (some (RR.agg [Rc.d (D.int IntKind.i64 w), Rc.d (D.int IntKind.i64 win), Rc.d (D.int IntKind.i64 (6 : Int)), Rc.d (D.int IntKind.i64 r0), Rc.d (D.int IntKind.i64 r1), Rc.d (D.int IntKind.i64 r2), Rc.d (D.int IntKind.i64 r3), Rc.new (3 : Nat) M, Rc.new (2 : Nat) L, Rc.new (9 : Nat) I])))) := by kernel_rfl
def Prg.fresh (p : Prg) : List Rc := [.d (.int .i64 p.w), .d (.int .i64 p.window), .d (.int .i64 p.fuel), .d (.int .i64 p.r0), .d (.int .i64 p.r1), .d (.int .i64 p.r2), .d (.int .i64 p.r3), .new 3 (rowsOn p.mems), .new 2 (rowsOn p.labels), .new 9 (rowsOn p.ins)]
def bitsR (v w r : Int) : Int := if r = v then w else 0
structure HRegs (w r0 r1 r2 r3 : Int) : Prop where
  hw : 1 ≤ w ∧ w ≤ 2
  h0 : 0 ≤ r0 ∧ r0 ≤ 2
  h1 : 0 ≤ r1 ∧ r1 ≤ 2
  h2 : 0 ≤ r2 ∧ r2 ≤ 2
  h3 : 0 ≤ r3 ∧ r3 ≤ 2
  pub : bitsR 1 w r0 + bitsR 1 w r1 + bitsR 1 w r2 + bitsR 1 w r3 ≤ 2
  sec : bitsR 2 w r0 + bitsR 2 w r1 + bitsR 2 w r2 + bitsR 2 w r3 ≤ 2
structure HMems (w r0 r1 r2 r3 : Int) (ms : List PMem) : Prop where
  len : ms.length ≤ 2
  n : ∀ m ∈ ms, 1 ≤ m.n ∧ m.n ≤ 2
  cells : cellsS ms ≤ 2
/-- A program that Make makes. -/
structure WFM (p : Prg) : Prop where
  regs : HRegs p.w p.r0 p.r1 p.r2 p.r3
  win : 1 ≤ p.window ∧ p.window ≤ 3
  fuel : p.fuel = 6
  mems : HMems p.w p.r0 p.r1 p.r2 p.r3 p.mems
  labels : p.labels.length ≤ 10
  len : 2 ≤ p.ins.length ∧ p.ins.length ≤ 5
  ins : ∀ i ∈ p.ins, WFI p.ins.length i
def MkQ (r : RR) : Prop := ∃ p, WFM p ∧ r = .agg p.fresh
theorem digS_size (n : Int) : (digS n).size = 1 := by
  unfold digS
  repeat' split
  all_goals rfl
theorem l_mk2 (l : List Int) (w win r0 r1 r2 r3 n : Int) (M L : List (List D)) (nm nl : Nat) (ms : List PMem) (ls : List PLabel) (hr : HRegs w r0 r1 r2 r3) (hwin : 1 ≤ win ∧ win ≤ 3) (hM : OnL M nm ms) (hL : OnL L nl ls) (hms : HMems w r0 r1 r2 r3 ms) (hls : ls.length ≤ 10) (hn : 2 ≤ n ∧ n ≤ 5) : ∀ i_ : Int × List (List D) × Nat, (fun (i : Int × List (List D) × Nat) => 0 ≤ i.1 ∧ i.1 ≤ n ∧ ∃ is : List Ins, OnL i.2.1 i.2.2 is ∧ is.length = i.1 ∧ ∀ x ∈ is, WFI n x) i_ → (a_make.at_ 2 ((fun (i : Int × List (List D) × Nat) => F_mk2 l w win r0 r1 r2 r3 M L i.2.1 nm nl i.2.2 n i.1) i_)).holds s_make.cx a_make.rs (MkQ) := by
  refine loop_rule (a := a_make) (j := 2) (m := 400) s_make_sound (fun (i : Int × List (List D) × Nat) => F_mk2 l w win r0 r1 r2 r3 M L i.2.1 nm nl i.2.2 n i.1) (fun (i : Int × List (List D) × Nat) => 0 ≤ i.1 ∧ i.1 ≤ n ∧ ∃ is : List Ins, OnL i.2.1 i.2.2 is ∧ is.length = i.1 ∧ ∀ x ∈ is, WFI n x) (fun (i : Int × List (List D) × Nat) => (n - i.1).toNat) ?_
  rintro ⟨i, I, ni⟩ h_inv ih
  try dsimp only at h_inv
  replace ih := fun (v0 : Int) (v1 : List (List D)) (v2 : Nat) => ih (v0, v1, v2)
  try dsimp only at ih
  show VC.holds _ _ _ (a_make.round s_make 400 2 (F_mk2 l w win r0 r1 r2 r3 M L I nm nl ni n i))
  rw [t_mk2]
  try simp only [asRows_sl, asInt_int, asBool_bool, asStr_str, listOf_rowsOn, List.drop_zero, Prg.eta, Sta.eta, rowsOn_length, getD_drop, Nat.reduceAdd, rd_int, rd_PMem_name, rd_PMem_secret, rd_PMem_n, rd_PLabel_name, rd_PLabel_at_, rd_Ins_kind, rd_Ins_op, rd_Ins_d, rd_Ins_aR, rd_Ins_aN, rd_Ins_bR, rd_Ins_bN, rd_Ins_name, rd_Ins_target, rd_Ent_pc, rd_Ent_val, rd_Ent_addr, rd_Ent_fro, rd_Ent_next, rd_Ent_done, rd_Ent_known, rd_Ent_fault, rd_Place_reg, rd_Place_n, rd_Place_secret, rd_Obs_kind, rd_Obs_at_, rd_Dir_kind, rd_Dir_n]
  obtain ⟨h0, h1, is, h2, h3, h4⟩ := h_inv
  rw [wrap_small (i + 2) (by omega) (by omega), wrap_small (i + 1) (by omega) (by omega)]
  repeat' first
    | refine br_not ?_
    | refine br_dec (fun _ => ?_) (fun _ => ?_)
    | refine br_beq (fun _ => ?_) (fun _ => ?_)
    | refine br_bne (fun _ => ?_) (fun _ => ?_)
    | refine br_holds (fun _ => ?_) (fun _ => ?_)
    | refine ⟨PreOk.mk ?_ rfl, ?_⟩
    | refine ⟨idx_ok _ _ _ rfl (by omega) (by omega), ?_⟩
    | refine ⟨okSh_ok _ _ _ (fun _ => rfl) (by omega) (by omega), ?_⟩
    | refine ⟨okSh_okD _ _ _ _ (fun _ => rfl) (by omega) (by omega), ?_⟩
    | refine ⟨aload_ok _ _ rfl (fun _ => rfl) (by omega) (by omega), ?_⟩
    | refine ⟨aload_okD _ _ _ rfl (fun _ => rfl) (by omega) (by omega), ?_⟩
    | refine ⟨astore_ok (by assumption) rfl (by omega) (by omega) (by decide), ?_⟩
    | refine ⟨app_ok (by assumption) rfl rfl (by simp only [List.length_cons, List.length_nil]; omega), ?_⟩
    | refine need_holds ?_ fun _ => ?_
    | refine all_holds fun y hy => ?_
    | refine ret_eq ?_
    | refine ih _ _ _ ?_ ?_
  all_goals try (show 0 ≤ i + 2; omega)
  all_goals try (show 1 ≤ n ∧ n ≤ 1000; omega)
  · have hx := (insM_spec (kS l (i + 2)) n (by omega)).1
    refine ⟨by omega, by omega, is ++ [insM (kS l (i + 2)) n], OnL.snoc h2 (insM (kS l (i + 2)) n), by simp; omega, ?_⟩
    intro x hx'
    rcases List.mem_append.1 hx' with h | h
    · exact h4 x h
    · simp only [List.mem_singleton] at h; subst h; exact hx
  · omega
  · obtain ⟨rfl, rfl⟩ := h2
    obtain ⟨rfl, rfl⟩ := hM
    obtain ⟨rfl, rfl⟩ := hL
    have hi : (is.length : Int) = n := by omega
    exact ⟨⟨w, win, 6, r0, r1, r2, r3, ms, ls, is⟩, ⟨hr, hwin, rfl, hms, hls, by dsimp only; omega, fun x hx => by dsimp only; rw [hi]; exact h4 x hx⟩, rfl⟩
theorem l_mk1 (l : List Int) (w win r0 r1 r2 r3 n : Int) (M : List (List D)) (nm : Nat) (ms : List PMem) (hr : HRegs w r0 r1 r2 r3) (hwin : 1 ≤ win ∧ win ≤ 3) (hM : OnL M nm ms) (hms : HMems w r0 r1 r2 r3 ms) (hn : 2 ≤ n ∧ n ≤ 5) : ∀ i_ : Int × List (List D) × Nat, (fun (i : Int × List (List D) × Nat) => 0 ≤ i.1 ∧ i.1 ≤ n + 1 ∧ ∃ ls : List PLabel, OnL i.2.1 i.2.2 ls ∧ ls.length = i.1) i_ → (a_make.at_ 1 ((fun (i : Int × List (List D) × Nat) => F_mk1 l w win r0 r1 r2 r3 M i.2.1 [] nm i.2.2 0 n i.1) i_)).holds s_make.cx a_make.rs (MkQ) := by
  refine loop_rule (a := a_make) (j := 1) (m := 400) s_make_sound (fun (i : Int × List (List D) × Nat) => F_mk1 l w win r0 r1 r2 r3 M i.2.1 [] nm i.2.2 0 n i.1) (fun (i : Int × List (List D) × Nat) => 0 ≤ i.1 ∧ i.1 ≤ n + 1 ∧ ∃ ls : List PLabel, OnL i.2.1 i.2.2 ls ∧ ls.length = i.1) (fun (i : Int × List (List D) × Nat) => (n + 1 - i.1).toNat) ?_
  rintro ⟨i, L, nl⟩ h_inv ih
  try dsimp only at h_inv
  replace ih := fun (v0 : Int) (v1 : List (List D)) (v2 : Nat) => ih (v0, v1, v2)
  try dsimp only at ih
  show VC.holds _ _ _ (a_make.round s_make 400 1 (F_mk1 l w win r0 r1 r2 r3 M L [] nm nl 0 n i))
  rw [t_mk1]
  try simp only [asRows_sl, asInt_int, asBool_bool, asStr_str, listOf_rowsOn, List.drop_zero, Prg.eta, Sta.eta, rowsOn_length, getD_drop, Nat.reduceAdd, rd_int, rd_PMem_name, rd_PMem_secret, rd_PMem_n, rd_PLabel_name, rd_PLabel_at_, rd_Ins_kind, rd_Ins_op, rd_Ins_d, rd_Ins_aR, rd_Ins_aN, rd_Ins_bR, rd_Ins_bN, rd_Ins_name, rd_Ins_target, rd_Ent_pc, rd_Ent_val, rd_Ent_addr, rd_Ent_fro, rd_Ent_next, rd_Ent_done, rd_Ent_known, rd_Ent_fault, rd_Place_reg, rd_Place_n, rd_Place_secret, rd_Obs_kind, rd_Obs_at_, rd_Dir_kind, rd_Dir_n]
  obtain ⟨h0, h1, ls, h2, h3⟩ := h_inv
  rw [wrap_small (i + 1) (by omega) (by omega)]
  repeat' first
    | refine br_not ?_
    | refine br_dec (fun _ => ?_) (fun _ => ?_)
    | refine br_beq (fun _ => ?_) (fun _ => ?_)
    | refine br_bne (fun _ => ?_) (fun _ => ?_)
    | refine br_holds (fun _ => ?_) (fun _ => ?_)
    | refine ⟨PreOk.mk ?_ rfl, ?_⟩
    | refine ⟨idx_ok _ _ _ rfl (by omega) (by omega), ?_⟩
    | refine ⟨okSh_ok _ _ _ (fun _ => rfl) (by omega) (by omega), ?_⟩
    | refine ⟨okSh_okD _ _ _ _ (fun _ => rfl) (by omega) (by omega), ?_⟩
    | refine ⟨aload_ok _ _ rfl (fun _ => rfl) (by omega) (by omega), ?_⟩
    | refine ⟨aload_okD _ _ _ rfl (fun _ => rfl) (by omega) (by omega), ?_⟩
    | refine ⟨astore_ok (by assumption) rfl (by omega) (by omega) (by decide), ?_⟩
    | refine ⟨app_ok (by assumption) rfl rfl (by simp only [List.length_cons, List.length_nil]; omega), ?_⟩
    | refine need_holds ?_ fun _ => ?_
    | refine all_holds fun y hy => ?_
    | refine ret_eq ?_
    | refine ih _ _ _ ?_ ?_
  all_goals try (show 0 ≤ i ∧ i ≤ 9; omega)
  · rw [digS_size]; decide
  · exact ⟨by omega, by omega, ls ++ [_], OnL.snoc h2 (⟨_, _⟩ : PLabel), by simp; omega⟩
  · omega
  · exact l_mk2 l w win r0 r1 r2 r3 n M L nm nl ms ls hr hwin hM h2 hms (by omega) hn (0, [], 0) ⟨by simp, by simp; omega, [], OnL.nil, by simp, by simp⟩
theorem hm_nil (w r0 r1 r2 r3 : Int) : HMems w r0 r1 r2 r3 [] := ⟨by simp, by simp, by simp [cellsS]⟩
theorem hm_one (w r0 r1 r2 r3 : Int) (nm : ByteArray) (b : Bool) (n : Int) (hn : 1 ≤ n ∧ n ≤ 2) : HMems w r0 r1 r2 r3 [⟨nm, b, n⟩] := ⟨by simp, by simpa using hn, by simp [cellsS]; omega⟩
theorem hm_two (w r0 r1 r2 r3 : Int) (nm nm' : ByteArray) (b b' : Bool) : HMems w r0 r1 r2 r3 [⟨nm, b, 1⟩, ⟨nm', b', 1⟩] := ⟨by simp, by simp, by simp [cellsS]⟩
theorem l_mk04 (l : List Int) (w win r0 r1 r2 r3 pub sec : Int) (hr : HRegs w r0 r1 r2 r3) (hwin : 1 ≤ win ∧ win ≤ 3) (hsec : 0 ≤ sec ∧ sec ≤ 2) : (a_make.at_ 0 (F_mk0 l w win r0 r1 r2 r3 pub sec 4)).holds s_make.cx a_make.rs MkQ := by
  have hw := hr.hw
  refine at_of_round s_make_sound (m := 400) ?_
  rw [t_mk04]
  simp only [asRows_sl, asInt_int, asBool_bool, asStr_str, listOf_rowsOn, List.drop_zero, Prg.eta, Sta.eta, rowsOn_length, getD_drop, Nat.reduceAdd, rd_int, rd_PMem_name, rd_PMem_secret, rd_PMem_n, rd_PLabel_name, rd_PLabel_at_, rd_Ins_kind, rd_Ins_op, rd_Ins_d, rd_Ins_aR, rd_Ins_aN, rd_Ins_bR, rd_Ins_bN, rd_Ins_name, rd_Ins_target, rd_Ent_pc, rd_Ent_val, rd_Ent_addr, rd_Ent_fro, rd_Ent_next, rd_Ent_done, rd_Ent_known, rd_Ent_fault, rd_Place_reg, rd_Place_n, rd_Place_secret, rd_Obs_kind, rd_Obs_at_, rd_Dir_kind, rd_Dir_n]
  simp only [and3]
  rw [wrap_small (Int.fdiv (kS l 0) 4096 % 4 + 2) (by omega) (by omega), wrap_small (sec + w) (by omega) (by omega)]
  repeat' first
    | refine br_not ?_
    | refine br_dec (fun _ => ?_) (fun _ => ?_)
    | refine br_beq (fun _ => ?_) (fun _ => ?_)
    | refine br_bne (fun _ => ?_) (fun _ => ?_)
    | refine br_holds (fun _ => ?_) (fun _ => ?_)
    | refine ⟨PreOk.mk ?_ rfl, ?_⟩
    | refine ⟨idx_ok _ _ _ rfl (by omega) (by omega), ?_⟩
    | refine ⟨okSh_ok _ _ _ (fun _ => rfl) (by omega) (by omega), ?_⟩
    | refine ⟨okSh_okD _ _ _ _ (fun _ => rfl) (by omega) (by omega), ?_⟩
    | refine ⟨aload_ok _ _ rfl (fun _ => rfl) (by omega) (by omega), ?_⟩
    | refine ⟨aload_okD _ _ _ rfl (fun _ => rfl) (by omega) (by omega), ?_⟩
    | refine ⟨astore_ok (by assumption) rfl (by omega) (by omega) (by decide), ?_⟩
    | refine ⟨app_ok (by assumption) rfl rfl (by simp only [List.length_cons, List.length_nil]; omega), ?_⟩
    | refine need_holds ?_ fun _ => ?_
    | refine all_holds fun y hy => ?_
    | refine ret_eq ?_
  all_goals try (dsimp only [c_mkk]; omega)
  all_goals try exact ⟨by decide, trivial, rfl⟩
  all_goals first
    | exact l_mk1 l w win r0 r1 r2 r3 _ _ _ [] hr hwin ⟨rfl, rfl⟩ (hm_nil ..) (by omega) (0, [], 0) ⟨by simp, by simp; omega, [], OnL.nil, rfl⟩
    | exact l_mk1 l w win r0 r1 r2 r3 _ _ _ [⟨_, _, _⟩] hr hwin ⟨rfl, rfl⟩ (hm_one _ _ _ _ _ _ _ _ (by decide)) (by omega) (0, [], 0) ⟨by simp, by simp; omega, [], OnL.nil, rfl⟩
    | exact l_mk1 l w win r0 r1 r2 r3 _ _ _ [⟨_, _, _⟩, ⟨_, _, _⟩] hr hwin ⟨rfl, rfl⟩ (hm_two ..) (by omega) (0, [], 0) ⟨by simp, by simp; omega, [], OnL.nil, rfl⟩
    | skip
  all_goals try omega
  all_goals try exact ⟨rfl, rfl, by decide⟩
  all_goals try exact ⟨by decide, trivial, by decide⟩
theorem br11 (w : Int) : bitsR 1 w 1 = w := if_pos rfl
theorem br12 (w : Int) : bitsR 1 w 2 = 0 := if_neg (by decide)
theorem br21 (w : Int) : bitsR 2 w 1 = 0 := if_neg (by decide)
theorem br22 (w : Int) : bitsR 2 w 2 = w := if_pos rfl
theorem br10 (w : Int) : bitsR 1 w 0 = 0 := if_neg (by decide)
theorem br20 (w : Int) : bitsR 2 w 0 = 0 := if_neg (by decide)
theorem tabR : ∀ i : Nat, i < 4 → (asInt (List.getD (rowAt [[D.int IntKind.i64 (0 : Int)], [D.int IntKind.i64 (0 : Int)], [D.int IntKind.i64 (1 : Int)], [D.int IntKind.i64 (2 : Int)]] i) 0 D.nilp) = 0 ∨ asInt (List.getD (rowAt [[D.int IntKind.i64 (0 : Int)], [D.int IntKind.i64 (0 : Int)], [D.int IntKind.i64 (1 : Int)], [D.int IntKind.i64 (2 : Int)]] i) 0 D.nilp) = 1 ∨ asInt (List.getD (rowAt [[D.int IntKind.i64 (0 : Int)], [D.int IntKind.i64 (0 : Int)], [D.int IntKind.i64 (1 : Int)], [D.int IntKind.i64 (2 : Int)]] i) 0 D.nilp) = 2) ∧ (rowAt [[D.int IntKind.i64 (0 : Int)], [D.int IntKind.i64 (0 : Int)], [D.int IntKind.i64 (1 : Int)], [D.int IntKind.i64 (2 : Int)]] i).length = 1 ∧ okSh [Kd.int IntKind.i64] (rowAt [[D.int IntKind.i64 (0 : Int)], [D.int IntKind.i64 (0 : Int)], [D.int IntKind.i64 (1 : Int)], [D.int IntKind.i64 (2 : Int)]] i) := by
  intro i hi
  have : i = 0 ∨ i = 1 ∨ i = 2 ∨ i = 3 := by omega
  rcases this with h | h | h | h <;> (subst h; exact ⟨by decide, rfl, rfl⟩)
theorem l_mk03 (l : List Int) (w win r0 r1 r2 pub sec : Int) (hr : HRegs w r0 r1 r2 0) (hwin : 1 ≤ win ∧ win ≤ 3) (hp : pub = bitsR 1 w r0 + bitsR 1 w r1 + bitsR 1 w r2) (hs : sec = bitsR 2 w r0 + bitsR 2 w r1 + bitsR 2 w r2) (hp2 : 0 ≤ pub ∧ pub ≤ 2) (hs2 : 0 ≤ sec ∧ sec ≤ 2) : (a_make.at_ 0 (F_mk0 l w win r0 r1 r2 0 pub sec 3)).holds s_make.cx a_make.rs MkQ := by
  have hw := hr.hw
  refine at_of_round s_make_sound (m := 400) ?_
  rw [t_mk03]
  simp only [asRows_sl, asInt_int, asBool_bool, asStr_str, listOf_rowsOn, List.drop_zero, Prg.eta, Sta.eta, rowsOn_length, getD_drop, Nat.reduceAdd, rd_int, rd_PMem_name, rd_PMem_secret, rd_PMem_n, rd_PLabel_name, rd_PLabel_at_, rd_Ins_kind, rd_Ins_op, rd_Ins_d, rd_Ins_aR, rd_Ins_aN, rd_Ins_bR, rd_Ins_bN, rd_Ins_name, rd_Ins_target, rd_Ent_pc, rd_Ent_val, rd_Ent_addr, rd_Ent_fro, rd_Ent_next, rd_Ent_done, rd_Ent_known, rd_Ent_fault, rd_Place_reg, rd_Place_n, rd_Place_secret, rd_Obs_kind, rd_Obs_at_, rd_Dir_kind, rd_Dir_n]
  simp only [and3]
  rw [wrap_small (pub + w) (by omega) (by omega), wrap_small (sec + w) (by omega) (by omega)]
  have h1 := tabR (Int.fdiv (kS l 1) 64 % 4).toNat (by omega)
  refine ⟨PreOk.mk (by dsimp only [c_mkk]; omega) rfl, by decide, ⟨by omega, by omega⟩, ⟨by omega, h1.2.1, h1.2.2⟩, ?_⟩
  obtain ⟨h2, _⟩ := h1
  revert h2
  generalize asInt (List.getD (rowAt _ (Int.fdiv (kS l 1) 64 % 4).toNat) 0 D.nilp) = kd
  intro h2
  have e1 := br11 w
  have e2 := br12 w
  have e3 := br21 w
  have e4 := br22 w
  have e5 := br10 w
  have e6 := br20 w
  obtain ⟨hw', g0, g1, g2, g3, gp, gs⟩ := hr
  rcases h2 with rfl | rfl | rfl
  all_goals
    repeat' first
      | refine br_not ?_
      | refine br_dec (fun _ => ?_) (fun _ => ?_)
      | refine br_beq (fun _ => ?_) (fun _ => ?_)
      | refine br_bne (fun _ => ?_) (fun _ => ?_)
      | refine br_holds (fun _ => ?_) (fun _ => ?_)
      | refine ⟨PreOk.mk ?_ rfl, ?_⟩
      | refine ⟨idx_ok _ _ _ rfl (by omega) (by omega), ?_⟩
      | refine ⟨okSh_ok _ _ _ (fun _ => rfl) (by omega) (by omega), ?_⟩
      | refine ⟨okSh_okD _ _ _ _ (fun _ => rfl) (by omega) (by omega), ?_⟩
      | refine ⟨aload_ok _ _ rfl (fun _ => rfl) (by omega) (by omega), ?_⟩
      | refine ⟨aload_okD _ _ _ rfl (fun _ => rfl) (by omega) (by omega), ?_⟩
      | refine ⟨astore_ok (by assumption) rfl (by omega) (by omega) (by decide), ?_⟩
      | refine ⟨app_ok (by assumption) rfl rfl (by simp only [List.length_cons, List.length_nil]; omega), ?_⟩
      | refine need_holds ?_ fun _ => ?_
      | refine all_holds fun y hy => ?_
      | refine ret_eq ?_
  all_goals try omega
  all_goals exact l_mk04 l w win r0 r1 r2 _ _ _ ⟨by omega, by omega, by omega, by omega, by omega, by omega, by omega⟩ hwin (by omega)
theorem l_mk02 (l : List Int) (w win r0 r1 pub sec : Int) (hr : HRegs w r0 r1 0 0) (hwin : 1 ≤ win ∧ win ≤ 3) (hp : pub = bitsR 1 w r0 + bitsR 1 w r1) (hs : sec = bitsR 2 w r0 + bitsR 2 w r1) (hp2 : 0 ≤ pub ∧ pub ≤ 2) (hs2 : 0 ≤ sec ∧ sec ≤ 2) : (a_make.at_ 0 (F_mk0 l w win r0 r1 0 0 pub sec 2)).holds s_make.cx a_make.rs MkQ := by
  have hw := hr.hw
  refine at_of_round s_make_sound (m := 400) ?_
  rw [t_mk02]
  simp only [asRows_sl, asInt_int, asBool_bool, asStr_str, listOf_rowsOn, List.drop_zero, Prg.eta, Sta.eta, rowsOn_length, getD_drop, Nat.reduceAdd, rd_int, rd_PMem_name, rd_PMem_secret, rd_PMem_n, rd_PLabel_name, rd_PLabel_at_, rd_Ins_kind, rd_Ins_op, rd_Ins_d, rd_Ins_aR, rd_Ins_aN, rd_Ins_bR, rd_Ins_bN, rd_Ins_name, rd_Ins_target, rd_Ent_pc, rd_Ent_val, rd_Ent_addr, rd_Ent_fro, rd_Ent_next, rd_Ent_done, rd_Ent_known, rd_Ent_fault, rd_Place_reg, rd_Place_n, rd_Place_secret, rd_Obs_kind, rd_Obs_at_, rd_Dir_kind, rd_Dir_n]
  simp only [and3]
  rw [wrap_small (pub + w) (by omega) (by omega), wrap_small (sec + w) (by omega) (by omega)]
  have h1 := tabR (Int.fdiv (kS l 1) 16 % 4).toNat (by omega)
  refine ⟨PreOk.mk (by dsimp only [c_mkk]; omega) rfl, by decide, ⟨by omega, by omega⟩, ⟨by omega, h1.2.1, h1.2.2⟩, ?_⟩
  obtain ⟨h2, _⟩ := h1
  revert h2
  generalize asInt (List.getD (rowAt _ (Int.fdiv (kS l 1) 16 % 4).toNat) 0 D.nilp) = kd
  intro h2
  have e1 := br11 w
  have e2 := br12 w
  have e3 := br21 w
  have e4 := br22 w
  have e5 := br10 w
  have e6 := br20 w
  obtain ⟨hw', g0, g1, g2, g3, gp, gs⟩ := hr
  rcases h2 with rfl | rfl | rfl
  all_goals
    repeat' first
      | refine br_not ?_
      | refine br_dec (fun _ => ?_) (fun _ => ?_)
      | refine br_beq (fun _ => ?_) (fun _ => ?_)
      | refine br_bne (fun _ => ?_) (fun _ => ?_)
      | refine br_holds (fun _ => ?_) (fun _ => ?_)
      | refine ⟨PreOk.mk ?_ rfl, ?_⟩
      | refine ⟨idx_ok _ _ _ rfl (by omega) (by omega), ?_⟩
      | refine ⟨okSh_ok _ _ _ (fun _ => rfl) (by omega) (by omega), ?_⟩
      | refine ⟨okSh_okD _ _ _ _ (fun _ => rfl) (by omega) (by omega), ?_⟩
      | refine ⟨aload_ok _ _ rfl (fun _ => rfl) (by omega) (by omega), ?_⟩
      | refine ⟨aload_okD _ _ _ rfl (fun _ => rfl) (by omega) (by omega), ?_⟩
      | refine ⟨astore_ok (by assumption) rfl (by omega) (by omega) (by decide), ?_⟩
      | refine ⟨app_ok (by assumption) rfl rfl (by simp only [List.length_cons, List.length_nil]; omega), ?_⟩
      | refine need_holds ?_ fun _ => ?_
      | refine all_holds fun y hy => ?_
      | refine ret_eq ?_
  all_goals try omega
  all_goals exact l_mk03 l w win r0 r1 _ _ _ ⟨by omega, by omega, by omega, by omega, by omega, by omega, by omega⟩ hwin (by omega) (by omega) (by omega) (by omega)
theorem l_mk01 (l : List Int) (w win r0 pub sec : Int) (hr : HRegs w r0 0 0 0) (hwin : 1 ≤ win ∧ win ≤ 3) (hp : pub = bitsR 1 w r0) (hs : sec = bitsR 2 w r0) (hp2 : 0 ≤ pub ∧ pub ≤ 2) (hs2 : 0 ≤ sec ∧ sec ≤ 2) : (a_make.at_ 0 (F_mk0 l w win r0 0 0 0 pub sec 1)).holds s_make.cx a_make.rs MkQ := by
  have hw := hr.hw
  refine at_of_round s_make_sound (m := 400) ?_
  rw [t_mk01]
  simp only [asRows_sl, asInt_int, asBool_bool, asStr_str, listOf_rowsOn, List.drop_zero, Prg.eta, Sta.eta, rowsOn_length, getD_drop, Nat.reduceAdd, rd_int, rd_PMem_name, rd_PMem_secret, rd_PMem_n, rd_PLabel_name, rd_PLabel_at_, rd_Ins_kind, rd_Ins_op, rd_Ins_d, rd_Ins_aR, rd_Ins_aN, rd_Ins_bR, rd_Ins_bN, rd_Ins_name, rd_Ins_target, rd_Ent_pc, rd_Ent_val, rd_Ent_addr, rd_Ent_fro, rd_Ent_next, rd_Ent_done, rd_Ent_known, rd_Ent_fault, rd_Place_reg, rd_Place_n, rd_Place_secret, rd_Obs_kind, rd_Obs_at_, rd_Dir_kind, rd_Dir_n]
  simp only [and3]
  rw [wrap_small (pub + w) (by omega) (by omega), wrap_small (sec + w) (by omega) (by omega)]
  have h1 := tabR (Int.fdiv (kS l 1) 4 % 4).toNat (by omega)
  refine ⟨PreOk.mk (by dsimp only [c_mkk]; omega) rfl, by decide, ⟨by omega, by omega⟩, ⟨by omega, h1.2.1, h1.2.2⟩, ?_⟩
  obtain ⟨h2, _⟩ := h1
  revert h2
  generalize asInt (List.getD (rowAt _ (Int.fdiv (kS l 1) 4 % 4).toNat) 0 D.nilp) = kd
  intro h2
  have e1 := br11 w
  have e2 := br12 w
  have e3 := br21 w
  have e4 := br22 w
  have e5 := br10 w
  have e6 := br20 w
  obtain ⟨hw', g0, g1, g2, g3, gp, gs⟩ := hr
  rcases h2 with rfl | rfl | rfl
  all_goals
    repeat' first
      | refine br_not ?_
      | refine br_dec (fun _ => ?_) (fun _ => ?_)
      | refine br_beq (fun _ => ?_) (fun _ => ?_)
      | refine br_bne (fun _ => ?_) (fun _ => ?_)
      | refine br_holds (fun _ => ?_) (fun _ => ?_)
      | refine ⟨PreOk.mk ?_ rfl, ?_⟩
      | refine ⟨idx_ok _ _ _ rfl (by omega) (by omega), ?_⟩
      | refine ⟨okSh_ok _ _ _ (fun _ => rfl) (by omega) (by omega), ?_⟩
      | refine ⟨okSh_okD _ _ _ _ (fun _ => rfl) (by omega) (by omega), ?_⟩
      | refine ⟨aload_ok _ _ rfl (fun _ => rfl) (by omega) (by omega), ?_⟩
      | refine ⟨aload_okD _ _ _ rfl (fun _ => rfl) (by omega) (by omega), ?_⟩
      | refine ⟨astore_ok (by assumption) rfl (by omega) (by omega) (by decide), ?_⟩
      | refine ⟨app_ok (by assumption) rfl rfl (by simp only [List.length_cons, List.length_nil]; omega), ?_⟩
      | refine need_holds ?_ fun _ => ?_
      | refine all_holds fun y hy => ?_
      | refine ret_eq ?_
  all_goals try omega
  all_goals exact l_mk02 l w win r0 _ _ _ ⟨by omega, by omega, by omega, by omega, by omega, by omega, by omega⟩ hwin (by omega) (by omega) (by omega) (by omega)
theorem l_mk00 (l : List Int) (w win pub sec : Int) (hr : HRegs w 0 0 0 0) (hwin : 1 ≤ win ∧ win ≤ 3) (hp : pub = 0) (hs : sec = 0) (hp2 : 0 ≤ pub ∧ pub ≤ 2) (hs2 : 0 ≤ sec ∧ sec ≤ 2) : (a_make.at_ 0 (F_mk0 l w win 0 0 0 0 pub sec 0)).holds s_make.cx a_make.rs MkQ := by
  have hw := hr.hw
  refine at_of_round s_make_sound (m := 400) ?_
  rw [t_mk00]
  simp only [asRows_sl, asInt_int, asBool_bool, asStr_str, listOf_rowsOn, List.drop_zero, Prg.eta, Sta.eta, rowsOn_length, getD_drop, Nat.reduceAdd, rd_int, rd_PMem_name, rd_PMem_secret, rd_PMem_n, rd_PLabel_name, rd_PLabel_at_, rd_Ins_kind, rd_Ins_op, rd_Ins_d, rd_Ins_aR, rd_Ins_aN, rd_Ins_bR, rd_Ins_bN, rd_Ins_name, rd_Ins_target, rd_Ent_pc, rd_Ent_val, rd_Ent_addr, rd_Ent_fro, rd_Ent_next, rd_Ent_done, rd_Ent_known, rd_Ent_fault, rd_Place_reg, rd_Place_n, rd_Place_secret, rd_Obs_kind, rd_Obs_at_, rd_Dir_kind, rd_Dir_n]
  simp only [and3]
  rw [wrap_small (pub + w) (by omega) (by omega), wrap_small (sec + w) (by omega) (by omega)]
  have h1 := tabR (Int.fdiv (kS l 1) 1 % 4).toNat (by omega)
  refine ⟨PreOk.mk (by dsimp only [c_mkk]; omega) rfl, by decide, ⟨by omega, by omega⟩, ⟨by omega, h1.2.1, h1.2.2⟩, ?_⟩
  obtain ⟨h2, _⟩ := h1
  revert h2
  generalize asInt (List.getD (rowAt _ (Int.fdiv (kS l 1) 1 % 4).toNat) 0 D.nilp) = kd
  intro h2
  have e1 := br11 w
  have e2 := br12 w
  have e3 := br21 w
  have e4 := br22 w
  have e5 := br10 w
  have e6 := br20 w
  obtain ⟨hw', g0, g1, g2, g3, gp, gs⟩ := hr
  rcases h2 with rfl | rfl | rfl
  all_goals
    repeat' first
      | refine br_not ?_
      | refine br_dec (fun _ => ?_) (fun _ => ?_)
      | refine br_beq (fun _ => ?_) (fun _ => ?_)
      | refine br_bne (fun _ => ?_) (fun _ => ?_)
      | refine br_holds (fun _ => ?_) (fun _ => ?_)
      | refine ⟨PreOk.mk ?_ rfl, ?_⟩
      | refine ⟨idx_ok _ _ _ rfl (by omega) (by omega), ?_⟩
      | refine ⟨okSh_ok _ _ _ (fun _ => rfl) (by omega) (by omega), ?_⟩
      | refine ⟨okSh_okD _ _ _ _ (fun _ => rfl) (by omega) (by omega), ?_⟩
      | refine ⟨aload_ok _ _ rfl (fun _ => rfl) (by omega) (by omega), ?_⟩
      | refine ⟨aload_okD _ _ _ rfl (fun _ => rfl) (by omega) (by omega), ?_⟩
      | refine ⟨astore_ok (by assumption) rfl (by omega) (by omega) (by decide), ?_⟩
      | refine ⟨app_ok (by assumption) rfl rfl (by simp only [List.length_cons, List.length_nil]; omega), ?_⟩
      | refine need_holds ?_ fun _ => ?_
      | refine all_holds fun y hy => ?_
      | refine ret_eq ?_
  all_goals try omega
  all_goals exact l_mk01 l w win _ _ _ ⟨by omega, by omega, by omega, by omega, by omega, by omega, by omega⟩ hwin (by omega) (by omega) (by omega) (by omega)
theorem x_make (l : List Int) : ∃ r, (MkQ) r ∧ ACalls Try.prog 11 [al l] r := by
  refine acalls_some s_make_sound (fn := Try.f11) (a := a_make) (nargs := 1) (tbl := [(5, [2, 3, 4, 5, 6, 7]), (21, [2, 3, 4, 8, 9, 3000256007000900007003, 3000256008000900008002, 3000256009000900009009]), (25, [2, 3, 4, 8, 10, 3000256007000900007003, 3000256008000900008002, 3000256009000900009009])]) (by kernel_rfl) (by kernel_rfl) rfl (m := 400) ?_
  show VC.holds _ _ _ (a_make.start s_make 400 [al l])
  rw [t_make]
  try simp only [asRows_sl, asInt_int, asBool_bool, asStr_str, listOf_rowsOn, List.drop_zero, Prg.eta, Sta.eta, rowsOn_length, getD_drop, Nat.reduceAdd, rd_int, rd_PMem_name, rd_PMem_secret, rd_PMem_n, rd_PLabel_name, rd_PLabel_at_, rd_Ins_kind, rd_Ins_op, rd_Ins_d, rd_Ins_aR, rd_Ins_aN, rd_Ins_bR, rd_Ins_bN, rd_Ins_name, rd_Ins_target, rd_Ent_pc, rd_Ent_val, rd_Ent_addr, rd_Ent_fro, rd_Ent_next, rd_Ent_done, rd_Ent_known, rd_Ent_fault, rd_Place_reg, rd_Place_n, rd_Place_secret, rd_Obs_kind, rd_Obs_at_, rd_Dir_kind, rd_Dir_n]
  simp only [tmod255]
  rw [show ∀ y : Int, bits .and .i64 y 1 = y % 2 from fun y => and1 y]
  rw [wrap_small (kS l 0 % 2 + 1) (by omega) (by omega), wrap_small (Int.fdiv (kS l 0) 2 % 256 % 3 + 1) (by omega) (by omega)]
  refine ⟨PreOk.mk (by dsimp only [c_mkk]; omega) rfl, PreOk.mk (by dsimp only [c_mkk]; omega) rfl, by decide, by decide, ?_⟩
  have e1 := br10 (kS l 0 % 2 + 1)
  have e2 := br20 (kS l 0 % 2 + 1)
  exact l_mk00 l _ _ _ _ ⟨by omega, by omega, by omega, by omega, by omega, by omega, by omega⟩ (by omega) rfl rfl (by omega) (by omega)
noncomputable def makeS (l : List Int) : Prg := pick fun p => WFM p ∧ ACalls Try.prog 11 [al l] (.agg (p.cells.map .d))
theorem makeS_spec (l : List Int) : WFM (makeS l) ∧ ACalls Try.prog 11 [al l] (.agg ((makeS l).cells.map .d)) := by
  obtain ⟨r, ⟨p, h1, rfl⟩, h2⟩ := x_make l
  exact pick_spec (Q := fun p => WFM p ∧ ACalls Try.prog 11 [al l] (.agg (p.cells.map .d))) ⟨p, h1, h2.data⟩
theorem WFM.mems' {p : Prg} (h : WFM p) : Mems p.mems := ⟨by have := h.mems.len; omega, fun m hm => by have := h.mems.n m hm; omega⟩
end Go.Proofs.Ytmhfhobaicklmaa.Ax
end

section
/- States that are compared: slices.Equal, arch.Still, arch.Same, arch.Low. -/
namespace Go.Proofs.Ytmhfhobaicklmaa.Ax
open Go.RowKit
set_option linter.unusedVariables false
set_option linter.unusedSimpArgs false
def rdLL : List A → List Int × List Int
  | [.c (.sl r), .c (.sl s)] => (listOf Int r, listOf Int s)
  | _ => default
def F_eqI (a b : List Int) (k : Int) : St := ⟨mkS 26 [(0, vr (rowsOn a)), (1, vr (rowsOn b)), (12, vi (rowsOn a).length), (13, vi k)], []⟩
theorem eq_drop {a b : List Int} {k : Int} (hl : a.length = b.length) (h0 : 0 ≤ k) (h1 : k < a.length) : (a.drop k.toNat = b.drop k.toNat) ↔ rd a k = rd b k ∧ a.drop (k + 1).toNat = b.drop (k + 1).toNat := by
  rw [drop_rd a k h0 h1, drop_rd b k h0 (by omega)]
  simp
theorem rb_le {b c : Bool} (h : b = c) : (rb b).le (rb c) := by subst h; exact rfl
def as_ (s : Sta) : A := .agg s.cells
def rdS : List A → Sta × Unit
  | [.agg l] => (Sta.of l, ())
  | _ => default
def rdSS : List A → Sta × Sta
  | [.agg l, .agg m] => (Sta.of l, Sta.of m)
  | _ => default
def rdPSS : List A → Prg × Sta × Sta
  | [.agg p, .agg l, .agg m] => (Prg.of p, Sta.of l, Sta.of m)
  | _ => default
/-- A state that can be held. -/
def SmallS (s : Sta) : Prop := s.mem.length ≤ 1000000 ∧ s.stack.length ≤ 1000000
def c_aStill : FT (Sta × Unit) := ⟨60, fun s => [as_ s.1], rdS, fun s => SmallS s.1, fun s => .agg s.1.fresh, false, fun s => by simp [as_, rdS]⟩
noncomputable def a_aStill : FnA := (fnA Try.prog Try.f60 1 []).getD ⟨0, .skip, [], []⟩
def s_aStill : Sp := spT [c_cloneI.fe]
theorem s_aStill_sound : s_aStill.sound Try.prog := spT_sound fun e he => by
  simp only [List.mem_cons, List.not_mem_nil, or_false] at he
  rcases he with rfl
  · exact c_cloneI_good
set_option maxRecDepth 100000 in
theorem t_aStill (s : Sta) : a_aStill.start s_aStill 400 [as_ s] =
(VC.need (PreOk c_cloneI (s.mem, ()) [A.c (D.sl (rowsOn s.mem))])
(VC.need (PreOk c_cloneI (s.stack, ()) [A.c (D.sl (rowsOn s.stack))])
(VC.ret (some (RR.agg [Rc.d (D.int IntKind.i64 s.r0), Rc.d (D.int IntKind.i64 s.r1), Rc.d (D.int IntKind.i64 s.r2), Rc.d (D.int IntKind.i64 s.r3), Rc.new (1 : Nat) (rowsOn (listOf Int (rowsOn s.mem))), Rc.new (1 : Nat) (rowsOn (listOf Int (rowsOn s.stack))), Rc.d (D.int IntKind.i64 s.pc)]))))) := by kernel_rfl
theorem agg_refl (a : List Rc) : (RR.agg a).le (.agg a) := Rc.les_refl a
theorem agg_le {a b : List Rc} (h : Rc.les a b) : (RR.agg a).le (.agg b) := h
theorem c_aStill_good : c_aStill.fe.Good Try.prog := by
  refine FT.good c_aStill ⟨Try.f60, by kernel_rfl, by decide +kernel, by kernel_rfl⟩ (fun ⟨s, u⟩ => by first | rfl | simp [c_aStill, rrRef, rnewI, rnewE, rstab, rplaces, ri, rb, rib, Sta.fresh]) fun ⟨s, u⟩ hp => ?_
  refine acalls_le s_aStill_sound (fn := Try.f60) (a := a_aStill) (nargs := 1) (tbl := []) (by kernel_rfl) (by kernel_rfl) rfl (m := 400) ?_
  show VC.holds _ _ _ (a_aStill.start s_aStill 400 [as_ s])
  rw [t_aStill]
  try simp only [asRows_sl, asInt_int, asBool_bool, asStr_str, listOf_rowsOn, List.drop_zero, Prg.eta, Sta.eta, rowsOn_length, getD_drop, Nat.reduceAdd, rd_int, rd_PMem_name, rd_PMem_secret, rd_PMem_n, rd_PLabel_name, rd_PLabel_at_, rd_Ins_kind, rd_Ins_op, rd_Ins_d, rd_Ins_aR, rd_Ins_aN, rd_Ins_bR, rd_Ins_bN, rd_Ins_name, rd_Ins_target, rd_Ent_pc, rd_Ent_val, rd_Ent_addr, rd_Ent_fro, rd_Ent_next, rd_Ent_done, rd_Ent_known, rd_Ent_fault, rd_Place_reg, rd_Place_n, rd_Place_secret, rd_Obs_kind, rd_Obs_at_, rd_Dir_kind, rd_Dir_n]
  try simp only [c_aStill] at hp
  obtain ⟨h1, h2⟩ := hp
  repeat' first
    | refine br_not ?_
    | refine br_dec (fun _ => ?_) (fun _ => ?_)
    | refine br_beq (fun _ => ?_) (fun _ => ?_)
    | refine br_bne (fun _ => ?_) (fun _ => ?_)
    | refine br_holds (fun _ => ?_) (fun _ => ?_)
    | refine ⟨PreOk.mk ?_ rfl, ?_⟩
    | refine ⟨idx_ok _ _ _ rfl (by omega) (by omega), ?_⟩
    | refine ⟨okSh_ok _ _ _ (fun _ => rfl) (by omega) (by omega), ?_⟩
    | refine ⟨okSh_okD _ _ _ _ (fun _ => rfl) (by omega) (by omega), ?_⟩
    | refine ⟨aload_ok _ _ rfl (fun _ => rfl) (by omega) (by omega), ?_⟩
    | refine ⟨aload_okD _ _ _ rfl (fun _ => rfl) (by omega) (by omega), ?_⟩
    | refine ⟨astore_ok (by assumption) rfl (by omega) (by omega) (by decide), ?_⟩
    | refine ⟨app_ok (by assumption) rfl rfl (by simp only [List.length_cons, List.length_nil]; omega), ?_⟩
    | refine need_holds ?_ fun _ => ?_
    | refine all_holds fun y hy => ?_
    | refine ret_le ?_
  · show s.mem.length ≤ 1000000000
    omega
  · show s.stack.length ≤ 1000000000
    omega
  · exact agg_refl _
theorem Sta.eq_iff {a b : Sta} : a = b ↔ a.r0 = b.r0 ∧ a.r1 = b.r1 ∧ a.r2 = b.r2 ∧ a.r3 = b.r3 ∧ a.mem = b.mem ∧ a.stack = b.stack ∧ a.pc = b.pc := by
  obtain ⟨_, _, _, _, _, _, _⟩ := a
  obtain ⟨_, _, _, _, _, _, _⟩ := b
  simp
/-- What is secret, as another state has it. -/
def seenS (t s : Sta) (x : Place) : Sta := if x.secret then putPlace s x (if x.reg then t.reg x.n else rd t.mem x.n) else s
def lowS (p : Prg) (s t : Sta) : Bool := if (s.mem.length : Int) = cellsS p.mems ∧ (t.mem.length : Int) = cellsS p.mems then decide ((placesS p).foldl (seenS t) s = t) else decide (s = t)
def F_aLow (r0 r1 r2 r3 : Int) (M : List (List D)) (n : Nat) (stk : List Int) (pc : Int) (t : Sta) (q : List Place) (k : Int) : St := ⟨mkS 66 [(4, vp 256), (5, vp 320), (29, vo 1856 (rowsOn q).length), (30, vi (rowsOn q).length), (31, vi k)],
  [(256, bc [.d (.int .i64 r0), .d (.int .i64 r1), .d (.int .i64 r2), .d (.int .i64 r3), .own 644 1 n, .own 645 1 (rowsOn stk).length, .d (.int .i64 pc)]), (320, bx t.cells), (644, ba 1 M), (645, ba 1 (rowsOn stk)), (1856, ba 3 (rowsOn q))]⟩
end Go.Proofs.Ytmhfhobaicklmaa.Ax
end

section
/- Make's contract; augurylaw7.States. -/
namespace Go.Proofs.Ytmhfhobaicklmaa.Ax
open Go.RowKit
set_option linter.unusedVariables false
set_option linter.unusedSimpArgs false
noncomputable def c_make : FT (List Int × Unit) := ⟨11, fun l => [al l.1], rdL, fun _ => True, fun l => .agg ((makeS l.1).cells.map .d), true, fun l => by simp [al, rdL]⟩
theorem c_make_good : c_make.fe.Good Try.prog := FT.good c_make ⟨Try.f11, by kernel_rfl, by decide +kernel, by kernel_rfl⟩ (fun _ => rfl) fun l _ => (makeS_spec l.1).2
def rdPLI : List A → Prg × List Int × Int
  | [.agg l, .c (.sl m), .c (.int _ i)] => (Prg.of l, listOf Int m, i)
  | _ => default
def rss (x : Sta × Sta) : RR := .tup [.inr x.1.fresh, .inr x.2.fresh]
/-- So many numbers, the first k of them told. -/
def toldS (n : Nat) (f : Nat → Int) (k : Nat) : List Int := (List.range n).map fun j => if j < k then f j else 0
theorem told_len (n : Nat) (f : Nat → Int) (k : Nat) : (toldS n f k).length = n := by simp [toldS]
theorem told_zero (n : Nat) (f : Nat → Int) : toldS n f 0 = List.replicate n 0 := by
  apply List.ext_getElem <;> simp [toldS]
theorem told_set (n : Nat) (f : Nat → Int) (k : Nat) : (toldS n f k).set k (f k) = toldS n f (k + 1) := by
  apply List.ext_getElem
  · simp [toldS]
  · intro i h1 h2
    simp only [toldS, List.getElem_set, List.getElem_map, List.getElem_range]
    by_cases h : k = i
    · subst h; simp
    · rw [if_neg h]
      by_cases h3 : i < k
      · rw [if_pos h3, if_pos (by omega)]
      · rw [if_neg h3, if_neg (by omega)]
theorem told_set2 (n : Nat) (f : Nat → Int) (k : Nat) (v : Int) : ((toldS n f k).set k v).set k (f k) = toldS n f (k + 1) := by rw [List.set_set, told_set]
theorem told_skip (n : Nat) (f : Nat → Int) (k : Nat) (h : f k = 0) : toldS n f k = toldS n f (k + 1) := by
  apply List.ext_getElem
  · simp [toldS]
  · intro i h1 h2
    simp only [toldS, List.getElem_map, List.getElem_range]
    by_cases h3 : k = i
    · subst h3; simp [h]
    · by_cases h4 : i < k
      · rw [if_pos h4, if_pos (by omega)]
      · rw [if_neg h4, if_neg (by omega)]
def padF (l : List Int) (j : Nat) : Int := if (j : Int) < l.length then rd l j else 0
def twinF (how : Int) (q : List Place) (l : List Int) (j : Nat) : Int := if (j : Int) < l.length then (if (rd q j).secret = true ∨ bits .and .i64 how 7 = 0 then Int.fdiv (rd l j) 16 else rd l j) else 0
def statesS (p : Prg) (l : List Int) (how : Int) : Sta × Sta := ((startS p (toldS (placesS p).length (padF l) (placesS p).length)).1, (startS p (toldS (placesS p).length (twinF how (placesS p) l) (placesS p).length)).1)
def c_states : FT (Prg × List Int × Int) := ⟨12, fun x => [ap x.1, al x.2.1, ai x.2.2], rdPLI, fun x => Mems x.1.mems, fun x => rss (statesS x.1 x.2.1 x.2.2), false, fun x => by simp [ap, al, ai, rdPLI]⟩
noncomputable def a_states : FnA := (fnA Try.prog Try.f12 3 [(4, [1, 2, 3, 6, 7, 8, 9, 10, 25, 26])]).getD ⟨0, .skip, [], []⟩
def s_states : Sp := spT [c_rPlaces.fe, c_rStart.fe]
theorem s_states_sound : s_states.sound Try.prog := spT_sound fun e he => by
  simp only [List.mem_cons, List.not_mem_nil, or_false] at he
  rcases he with rfl | rfl
  · exact c_rPlaces_good
  · exact c_rStart_good
def F_states (p : Prg) (l : List Int) (how : Int) (q : List Place) (X Y : List (List D)) (nx ny : Nat) (k : Int) : St := ⟨mkS 80 [(1, vr (rowsOn l)), (2, vi how), (3, vp 192), (6, vp 384), (7, vp 448), (8, vo 1088 (rowsOn q).length), (9, vo 1280 nx), (10, vo 1472 ny), (25, vi (rowsOn q).length), (26, vi k)],
  [(192, bx p.cells), (384, bc [.d (.int .i64 0), .d (.int .i64 0), .d (.int .i64 0), .d (.int .i64 0), .nil, .nil, .d (.int .i64 0)]), (448, bc [.d (.int .i64 0), .d (.int .i64 0), .d (.int .i64 0), .d (.int .i64 0), .nil, .nil, .d (.int .i64 0)]), (1088, ba 3 (rowsOn q)), (1280, ba 1 X), (1472, ba 1 Y)]⟩
set_option maxRecDepth 100000 in
theorem t_states (p : Prg) (l : List Int) (how : Int) : a_states.start s_states 400 [ap p, al l, ai how] =
(VC.need (PreOk c_rPlaces p [A.agg (Prg.cells p)])
(VC.need ((↑(List.length (rowsOn (placesS { w := p.w, window := p.window, fuel := p.fuel, r0 := p.r0, r1 := p.r1, r2 := p.r2, r3 := p.r3, mems := listOf PMem (rowsOn p.mems), labels := listOf PLabel (rowsOn p.labels), ins := listOf Ins (rowsOn p.ins) }))) : Int) = (↑(List.length (rowsOn (placesS { w := p.w, window := p.window, fuel := p.fuel, r0 := p.r0, r1 := p.r1, r2 := p.r2, r3 := p.r3, mems := listOf PMem (rowsOn p.mems), labels := listOf PLabel (rowsOn p.labels), ins := listOf Ins (rowsOn p.ins) }))) : Int) ∧ (0 : Int) ≤ (↑(List.length (rowsOn (placesS { w := p.w, window := p.window, fuel := p.fuel, r0 := p.r0, r1 := p.r1, r2 := p.r2, r3 := p.r3, mems := listOf PMem (rowsOn p.mems), labels := listOf PLabel (rowsOn p.labels), ins := listOf Ins (rowsOn p.ins) }))) : Int) ∧ (9 : Int) * (↑(List.length (rowsOn (placesS { w := p.w, window := p.window, fuel := p.fuel, r0 := p.r0, r1 := p.r1, r2 := p.r2, r3 := p.r3, mems := listOf PMem (rowsOn p.mems), labels := listOf PLabel (rowsOn p.labels), ins := listOf Ins (rowsOn p.ins) }))) : Int) ≤ (140737488355328 : Int))
(VC.need ((↑(List.length (rowsOn (placesS { w := p.w, window := p.window, fuel := p.fuel, r0 := p.r0, r1 := p.r1, r2 := p.r2, r3 := p.r3, mems := listOf PMem (rowsOn p.mems), labels := listOf PLabel (rowsOn p.labels), ins := listOf Ins (rowsOn p.ins) }))) : Int) = (↑(List.length (rowsOn (placesS { w := p.w, window := p.window, fuel := p.fuel, r0 := p.r0, r1 := p.r1, r2 := p.r2, r3 := p.r3, mems := listOf PMem (rowsOn p.mems), labels := listOf PLabel (rowsOn p.labels), ins := listOf Ins (rowsOn p.ins) }))) : Int) ∧ (0 : Int) ≤ (↑(List.length (rowsOn (placesS { w := p.w, window := p.window, fuel := p.fuel, r0 := p.r0, r1 := p.r1, r2 := p.r2, r3 := p.r3, mems := listOf PMem (rowsOn p.mems), labels := listOf PLabel (rowsOn p.labels), ins := listOf Ins (rowsOn p.ins) }))) : Int) ∧ (9 : Int) * (↑(List.length (rowsOn (placesS { w := p.w, window := p.window, fuel := p.fuel, r0 := p.r0, r1 := p.r1, r2 := p.r2, r3 := p.r3, mems := listOf PMem (rowsOn p.mems), labels := listOf PLabel (rowsOn p.labels), ins := listOf Ins (rowsOn p.ins) }))) : Int) ≤ (140737488355328 : Int))
(FnA.at_ a_states 0 (F_states p l how (placesS { w := p.w, window := p.window, fuel := p.fuel, r0 := p.r0, r1 := p.r1, r2 := p.r2, r3 := p.r3, mems := listOf PMem (rowsOn p.mems), labels := listOf PLabel (rowsOn p.labels), ins := listOf Ins (rowsOn p.ins) }) (List.replicate (Int.toNat (↑(List.length (rowsOn (placesS { w := p.w, window := p.window, fuel := p.fuel, r0 := p.r0, r1 := p.r1, r2 := p.r2, r3 := p.r3, mems := listOf PMem (rowsOn p.mems), labels := listOf PLabel (rowsOn p.labels), ins := listOf Ins (rowsOn p.ins) }))) : Int)) [D.int IntKind.i64 (0 : Int)]) (List.replicate (Int.toNat (↑(List.length (rowsOn (placesS { w := p.w, window := p.window, fuel := p.fuel, r0 := p.r0, r1 := p.r1, r2 := p.r2, r3 := p.r3, mems := listOf PMem (rowsOn p.mems), labels := listOf PLabel (rowsOn p.labels), ins := listOf Ins (rowsOn p.ins) }))) : Int)) [D.int IntKind.i64 (0 : Int)]) (Int.toNat (↑(List.length (rowsOn (placesS { w := p.w, window := p.window, fuel := p.fuel, r0 := p.r0, r1 := p.r1, r2 := p.r2, r3 := p.r3, mems := listOf PMem (rowsOn p.mems), labels := listOf PLabel (rowsOn p.labels), ins := listOf Ins (rowsOn p.ins) }))) : Int)) (Int.toNat (↑(List.length (rowsOn (placesS { w := p.w, window := p.window, fuel := p.fuel, r0 := p.r0, r1 := p.r1, r2 := p.r2, r3 := p.r3, mems := listOf PMem (rowsOn p.mems), labels := listOf PLabel (rowsOn p.labels), ins := listOf Ins (rowsOn p.ins) }))) : Int)) (0 : Int)))))) := by kernel_rfl
set_option maxRecDepth 100000 in
theorem t_states0 (p : Prg) (l : List Int) (how : Int) (q : List Place) (X Y : List (List D)) (nx ny : Nat) (k : Int) : a_states.round s_states 400 0 (F_states p l how q X Y nx ny k) =
(VC.br (decide (k < (↑(List.length (rowsOn q)) : Int)))
 (VC.br (decide (k < (↑(List.length (rowsOn l)) : Int)))
  (VC.need ((0 : Int) ≤ k ∧ k < (↑(List.length (rowsOn l)) : Int) ∧ List.length (rowAt (rowsOn l) (Int.toNat k)) = (1 : Nat))
  (VC.need (okSh [Kd.int IntKind.i64] (rowAt (rowsOn l) (Int.toNat k)))
  (VC.need ((0 : Int) ≤ k ∧ k < (↑(List.length (rowsOn l)) : Int) ∧ List.length (rowAt (rowsOn l) (Int.toNat k)) = (1 : Nat))
  (VC.need (okSh [Kd.int IntKind.i64] (rowAt (rowsOn l) (Int.toNat k)))
  (VC.need ((0 : Int) ≤ k ∧ k < (↑nx : Int))
  (VC.need (Int.toNat k < List.length X ∧ List.length (rowAt X (Int.toNat k)) = (1 : Nat) ∧ (1 : Nat) ≤ (1 : Nat))
  (VC.need ((0 : Int) ≤ k ∧ k < (↑ny : Int))
  (VC.need (Int.toNat k < List.length Y ∧ List.length (rowAt Y (Int.toNat k)) = (1 : Nat) ∧ (1 : Nat) ≤ (1 : Nat))
  (VC.need ((0 : Int) ≤ k ∧ k < (↑(List.length (rowsOn q)) : Int))
  (VC.need (Int.toNat k < List.length (rowsOn q) ∧ List.length (rowAt (rowsOn q) (Int.toNat k)) = (3 : Nat) ∧ okSh [Kd.bool] (List.drop (2 : Nat) (rowAt (rowsOn q) (Int.toNat k))))
  (VC.br (asBool (List.getD (List.drop (2 : Nat) (rowAt (rowsOn q) (Int.toNat k))) (0 : Nat) D.nilp))
   (VC.need ((0 : Int) ≤ k ∧ k < (↑(List.length (rowsOn l)) : Int) ∧ List.length (rowAt (rowsOn l) (Int.toNat k)) = (1 : Nat))
   (VC.need (okSh [Kd.int IntKind.i64] (rowAt (rowsOn l) (Int.toNat k)))
   (VC.need ((0 : Int) ≤ (4 : Int))
   (VC.need ((0 : Int) ≤ k ∧ k < (↑ny : Int))
   (VC.need (Int.toNat k < List.length (List.set Y (Int.toNat k) (splice (rowAt Y (Int.toNat k)) (0 : Nat) [D.int IntKind.i64 (asInt (List.getD (rowAt (rowsOn l) (Int.toNat k)) (0 : Nat) D.nilp))])) ∧ List.length (rowAt (List.set Y (Int.toNat k) (splice (rowAt Y (Int.toNat k)) (0 : Nat) [D.int IntKind.i64 (asInt (List.getD (rowAt (rowsOn l) (Int.toNat k)) (0 : Nat) D.nilp))])) (Int.toNat k)) = (1 : Nat) ∧ (1 : Nat) ≤ (1 : Nat))
   (FnA.at_ a_states 0 (F_states p l how q (List.set X (Int.toNat k) (splice (rowAt X (Int.toNat k)) (0 : Nat) [D.int IntKind.i64 (asInt (List.getD (rowAt (rowsOn l) (Int.toNat k)) (0 : Nat) D.nilp))])) (List.set (List.set Y (Int.toNat k) (splice (rowAt Y (Int.toNat k)) (0 : Nat) [D.int IntKind.i64 (asInt (List.getD (rowAt (rowsOn l) (Int.toNat k)) (0 : Nat) D.nilp))])) (Int.toNat k) (splice (rowAt (List.set Y (Int.toNat k) (splice (rowAt Y (Int.toNat k)) (0 : Nat) [D.int IntKind.i64 (asInt (List.getD (rowAt (rowsOn l) (Int.toNat k)) (0 : Nat) D.nilp))])) (Int.toNat k)) (0 : Nat) [D.int IntKind.i64 (Int.fdiv (asInt (List.getD (rowAt (rowsOn l) (Int.toNat k)) (0 : Nat) D.nilp)) (16 : Int))])) nx ny (IntKind.wrap IntKind.i64 (k + (1 : Int))))))))))
   (VC.br (bits BinOp.and IntKind.i64 how (7 : Int) == (0 : Int))
    (VC.need ((0 : Int) ≤ k ∧ k < (↑(List.length (rowsOn l)) : Int) ∧ List.length (rowAt (rowsOn l) (Int.toNat k)) = (1 : Nat))
    (VC.need (okSh [Kd.int IntKind.i64] (rowAt (rowsOn l) (Int.toNat k)))
    (VC.need ((0 : Int) ≤ (4 : Int))
    (VC.need ((0 : Int) ≤ k ∧ k < (↑ny : Int))
    (VC.need (Int.toNat k < List.length (List.set Y (Int.toNat k) (splice (rowAt Y (Int.toNat k)) (0 : Nat) [D.int IntKind.i64 (asInt (List.getD (rowAt (rowsOn l) (Int.toNat k)) (0 : Nat) D.nilp))])) ∧ List.length (rowAt (List.set Y (Int.toNat k) (splice (rowAt Y (Int.toNat k)) (0 : Nat) [D.int IntKind.i64 (asInt (List.getD (rowAt (rowsOn l) (Int.toNat k)) (0 : Nat) D.nilp))])) (Int.toNat k)) = (1 : Nat) ∧ (1 : Nat) ≤ (1 : Nat))
    (FnA.at_ a_states 0 (F_states p l how q (List.set X (Int.toNat k) (splice (rowAt X (Int.toNat k)) (0 : Nat) [D.int IntKind.i64 (asInt (List.getD (rowAt (rowsOn l) (Int.toNat k)) (0 : Nat) D.nilp))])) (List.set (List.set Y (Int.toNat k) (splice (rowAt Y (Int.toNat k)) (0 : Nat) [D.int IntKind.i64 (asInt (List.getD (rowAt (rowsOn l) (Int.toNat k)) (0 : Nat) D.nilp))])) (Int.toNat k) (splice (rowAt (List.set Y (Int.toNat k) (splice (rowAt Y (Int.toNat k)) (0 : Nat) [D.int IntKind.i64 (asInt (List.getD (rowAt (rowsOn l) (Int.toNat k)) (0 : Nat) D.nilp))])) (Int.toNat k)) (0 : Nat) [D.int IntKind.i64 (Int.fdiv (asInt (List.getD (rowAt (rowsOn l) (Int.toNat k)) (0 : Nat) D.nilp)) (16 : Int))])) nx ny (IntKind.wrap IntKind.i64 (k + (1 : Int))))))))))
    (FnA.at_ a_states 0 (F_states p l how q (List.set X (Int.toNat k) (splice (rowAt X (Int.toNat k)) (0 : Nat) [D.int IntKind.i64 (asInt (List.getD (rowAt (rowsOn l) (Int.toNat k)) (0 : Nat) D.nilp))])) (List.set Y (Int.toNat k) (splice (rowAt Y (Int.toNat k)) (0 : Nat) [D.int IntKind.i64 (asInt (List.getD (rowAt (rowsOn l) (Int.toNat k)) (0 : Nat) D.nilp))])) nx ny (IntKind.wrap IntKind.i64 (k + (1 : Int)))))))))))))))))
  (FnA.at_ a_states 0 (F_states p l how q X Y nx ny (IntKind.wrap IntKind.i64 (k + (1 : Int))))))
 (VC.need (PreOk c_rStart (Prg.of (Prg.cells p), listOf Int X) [A.agg (Prg.cells p), A.c (D.sl X)])
 (VC.need (PreOk c_rStart (Prg.of (Prg.cells p), listOf Int Y) [A.agg (Prg.cells p), A.c (D.sl Y)])
 (VC.ret (some (RR.tup [Sum.inr [Rc.d (D.int IntKind.i64 (startS (Prg.of (Prg.cells p)) (listOf Int X)).fst.r0), Rc.d (D.int IntKind.i64 (startS (Prg.of (Prg.cells p)) (listOf Int X)).fst.r1), Rc.d (D.int IntKind.i64 (startS (Prg.of (Prg.cells p)) (listOf Int X)).fst.r2), Rc.d (D.int IntKind.i64 (startS (Prg.of (Prg.cells p)) (listOf Int X)).fst.r3), Rc.new (1 : Nat) (rowsOn (startS (Prg.of (Prg.cells p)) (listOf Int X)).fst.mem), Rc.new (1 : Nat) (rowsOn (startS (Prg.of (Prg.cells p)) (listOf Int X)).fst.stack), Rc.d (D.int IntKind.i64 (startS (Prg.of (Prg.cells p)) (listOf Int X)).fst.pc)], Sum.inr [Rc.d (D.int IntKind.i64 (startS (Prg.of (Prg.cells p)) (listOf Int Y)).fst.r0), Rc.d (D.int IntKind.i64 (startS (Prg.of (Prg.cells p)) (listOf Int Y)).fst.r1), Rc.d (D.int IntKind.i64 (startS (Prg.of (Prg.cells p)) (listOf Int Y)).fst.r2), Rc.d (D.int IntKind.i64 (startS (Prg.of (Prg.cells p)) (listOf Int Y)).fst.r3), Rc.new (1 : Nat) (rowsOn (startS (Prg.of (Prg.cells p)) (listOf Int Y)).fst.mem), Rc.new (1 : Nat) (rowsOn (startS (Prg.of (Prg.cells p)) (listOf Int Y)).fst.stack), Rc.d (D.int IntKind.i64 (startS (Prg.of (Prg.cells p)) (listOf Int Y)).fst.pc)]])))))) := by kernel_rfl
theorem l_states0 (p : Prg) (l : List Int) (how : Int) (q : List Place) (hm : Mems p.mems) (hq : q = placesS p) (hl : q.length ≤ 10000) : ∀ i_ : Int × List (List D) × List (List D) × Nat × Nat, (fun (i : Int × List (List D) × List (List D) × Nat × Nat) => 0 ≤ i.1 ∧ i.1 ≤ q.length ∧ OnL i.2.1 i.2.2.2.1 (toldS q.length (padF l) i.1.toNat) ∧ OnL i.2.2.1 i.2.2.2.2 (toldS q.length (twinF how q l) i.1.toNat)) i_ → (a_states.at_ 0 ((fun (i : Int × List (List D) × List (List D) × Nat × Nat) => F_states p l how q i.2.1 i.2.2.1 i.2.2.2.1 i.2.2.2.2 i.1) i_)).holds s_states.cx a_states.rs (fun r => r.le (rss (statesS p l how))) := by
  refine loop_rule (a := a_states) (j := 0) (m := 400) s_states_sound (fun (i : Int × List (List D) × List (List D) × Nat × Nat) => F_states p l how q i.2.1 i.2.2.1 i.2.2.2.1 i.2.2.2.2 i.1) (fun (i : Int × List (List D) × List (List D) × Nat × Nat) => 0 ≤ i.1 ∧ i.1 ≤ q.length ∧ OnL i.2.1 i.2.2.2.1 (toldS q.length (padF l) i.1.toNat) ∧ OnL i.2.2.1 i.2.2.2.2 (toldS q.length (twinF how q l) i.1.toNat)) (fun (i : Int × List (List D) × List (List D) × Nat × Nat) => ((q.length : Int) - i.1).toNat) ?_
  rintro ⟨k, X, Y, nx, ny⟩ h_inv ih
  try dsimp only at h_inv
  replace ih := fun (v0 : Int) (v1 : List (List D)) (v2 : List (List D)) (v3 : Nat) (v4 : Nat) => ih (v0, v1, v2, v3, v4)
  try dsimp only at ih
  show VC.holds _ _ _ (a_states.round s_states 400 0 (F_states p l how q X Y nx ny k))
  rw [t_states0]
  try simp only [asRows_sl, asInt_int, asBool_bool, asStr_str, listOf_rowsOn, List.drop_zero, Prg.eta, Sta.eta, rowsOn_length, getD_drop, Nat.reduceAdd, rd_int, rd_PMem_name, rd_PMem_secret, rd_PMem_n, rd_PLabel_name, rd_PLabel_at_, rd_Ins_kind, rd_Ins_op, rd_Ins_d, rd_Ins_aR, rd_Ins_aN, rd_Ins_bR, rd_Ins_bN, rd_Ins_name, rd_Ins_target, rd_Ent_pc, rd_Ent_val, rd_Ent_addr, rd_Ent_fro, rd_Ent_next, rd_Ent_done, rd_Ent_known, rd_Ent_fault, rd_Place_reg, rd_Place_n, rd_Place_secret, rd_Obs_kind, rd_Obs_at_, rd_Dir_kind, rd_Dir_n]
  obtain ⟨h0, h1, h2, h3⟩ := h_inv
  have w1 : IntKind.wrap .i64 (k + 1) = k + 1 := wrap_small _ (by omega) (by omega)
  rw [w1]
  have l2 := h2.2
  have l3 := h3.2
  rw [told_len] at l2 l3
  repeat' first
    | refine br_not ?_
    | refine br_dec (fun _ => ?_) (fun _ => ?_)
    | refine br_beq (fun _ => ?_) (fun _ => ?_)
    | refine br_bne (fun _ => ?_) (fun _ => ?_)
    | refine br_holds (fun _ => ?_) (fun _ => ?_)
    | refine ⟨PreOk.mk ?_ rfl, ?_⟩
    | refine ⟨idx_ok _ _ _ rfl (by omega) (by omega), ?_⟩
    | refine ⟨okSh_ok _ _ _ (fun _ => rfl) (by omega) (by omega), ?_⟩
    | refine ⟨okSh_okD _ _ _ _ (fun _ => rfl) (by omega) (by omega), ?_⟩
    | refine ⟨aload_ok _ _ rfl (fun _ => rfl) (by omega) (by omega), ?_⟩
    | refine ⟨aload_okD _ _ _ rfl (fun _ => rfl) (by omega) (by omega), ?_⟩
    | refine ⟨astore_ok (by assumption) rfl (by omega) (by omega) (by decide), ?_⟩
    | refine ⟨app_ok (by assumption) rfl rfl (by simp only [List.length_cons, List.length_nil]; omega), ?_⟩
    | refine need_holds ?_ fun _ => ?_
    | refine all_holds fun y hy => ?_
    | refine ret_le ?_
    | refine ih _ _ _ _ _ ?_ ?_
  all_goals try omega
  all_goals try have hk : k < q.length := by assumption
  all_goals have m2 := told_len q.length (padF l) k.toNat
  all_goals have m3 := told_len q.length (twinF how q l) k.toNat
  all_goals have m4 : ((toldS q.length (twinF how q l) k.toNat).set k.toNat (rd l k)).length = q.length := by simpa using m3
  all_goals try exact astore_ok h2 rfl (by omega) (by omega) (by decide)
  all_goals try exact astore_ok h3 rfl (by omega) (by omega) (by decide)
  all_goals try exact astore_ok (h3.set (by omega) (by omega) (rd l k)) rfl (by omega) (by omega) (by decide)
  all_goals have ek : (k + 1).toNat = k.toNat + 1 := by omega
  all_goals have ek' : ((k.toNat : Nat) : Int) = k := by omega
  all_goals try have pf : padF l k.toNat = rd l k := by unfold padF; rw [ek', if_pos ‹_›]
  · have tf : twinF how q l k.toNat = Int.fdiv (rd l k) 16 := by unfold twinF; rw [ek', if_pos ‹_›, if_pos (Or.inl ‹_›)]
    have g2 := h2.set h0 (by omega) (rd l k)
    have g3 := (h3.set h0 (by omega) (rd l k)).set h0 (by omega) (Int.fdiv (rd l k) 16)
    rw [← pf, told_set] at g2
    rw [← tf, told_set2] at g3
    rw [ek]
    exact ⟨by omega, by omega, by rw [← pf]; exact g2, by rw [← tf]; exact g3⟩
  · have tf : twinF how q l k.toNat = Int.fdiv (rd l k) 16 := by unfold twinF; rw [ek', if_pos ‹_›, if_pos (Or.inr ‹_›)]
    have g2 := h2.set h0 (by omega) (rd l k)
    have g3 := (h3.set h0 (by omega) (rd l k)).set h0 (by omega) (Int.fdiv (rd l k) 16)
    rw [← pf, told_set] at g2
    rw [← tf, told_set2] at g3
    rw [ek]
    exact ⟨by omega, by omega, by rw [← pf]; exact g2, by rw [← tf]; exact g3⟩
  · have tf : twinF how q l k.toNat = rd l k := by unfold twinF; rw [ek', if_pos ‹_›, if_neg (by rintro (h | h) <;> simp_all)]
    have g2 := h2.set h0 (by omega) (rd l k)
    have g3 := h3.set h0 (by omega) (rd l k)
    rw [← pf, told_set] at g2
    rw [← tf, told_set] at g3
    rw [ek]
    exact ⟨by omega, by omega, by rw [← pf]; exact g2, by rw [← tf]; exact g3⟩
  · have hn : ¬ ((k.toNat : Nat) : Int) < l.length := by omega
    rw [ek, ← told_skip _ _ _ (show padF l k.toNat = 0 from if_neg hn), ← told_skip _ _ _ (show twinF how q l k.toNat = 0 from if_neg hn)]
    exact ⟨by omega, by omega, h2, h3⟩
  · obtain ⟨rfl, rfl⟩ := h2
    simp only [listOf_rowsOn, Prg.of_cells]
    exact PreOk.mk hm rfl
  · obtain ⟨rfl, rfl⟩ := h3
    simp only [listOf_rowsOn, Prg.of_cells]
    exact PreOk.mk hm rfl
  · obtain ⟨rfl, rfl⟩ := h2
    obtain ⟨rfl, rfl⟩ := h3
    have hk : k.toNat = q.length := by omega
    subst hq
    rw [hk]
    simp only [listOf_rowsOn, Prg.of_cells]
    exact RR.le_refl _
theorem c_states_good : c_states.fe.Good Try.prog := by
  refine FT.good c_states ⟨Try.f12, by kernel_rfl, by decide +kernel, by kernel_rfl⟩ (fun ⟨p, l, how⟩ => by first | rfl | simp [c_states, rrRef, rnewI, rnewE, rstab, rplaces, ri, rb, rib, rss, Sta.fresh]) fun ⟨p, l, how⟩ hp => ?_
  refine acalls_le s_states_sound (fn := Try.f12) (a := a_states) (nargs := 3) (tbl := [(4, [1, 2, 3, 6, 7, 8, 9, 10, 25, 26])]) (by kernel_rfl) (by kernel_rfl) rfl (m := 400) ?_
  show VC.holds _ _ _ (a_states.start s_states 400 [ap p, al l, ai how])
  rw [t_states]
  try simp only [asRows_sl, asInt_int, asBool_bool, asStr_str, listOf_rowsOn, List.drop_zero, Prg.eta, Sta.eta, rowsOn_length, getD_drop, Nat.reduceAdd, rd_int, rd_PMem_name, rd_PMem_secret, rd_PMem_n, rd_PLabel_name, rd_PLabel_at_, rd_Ins_kind, rd_Ins_op, rd_Ins_d, rd_Ins_aR, rd_Ins_aN, rd_Ins_bR, rd_Ins_bN, rd_Ins_name, rd_Ins_target, rd_Ent_pc, rd_Ent_val, rd_Ent_addr, rd_Ent_fro, rd_Ent_next, rd_Ent_done, rd_Ent_known, rd_Ent_fault, rd_Place_reg, rd_Place_n, rd_Place_secret, rd_Obs_kind, rd_Obs_at_, rd_Dir_kind, rd_Dir_n]
  try simp only [c_states] at hp
  have hm : Mems p.mems := hp
  have hpl := places_len p hm
  have e : c_states.ans (p, l, how) = rss (statesS p l how) := rfl
  rw [e]
  repeat' first
    | refine br_not ?_
    | refine br_dec (fun _ => ?_) (fun _ => ?_)
    | refine br_beq (fun _ => ?_) (fun _ => ?_)
    | refine br_bne (fun _ => ?_) (fun _ => ?_)
    | refine br_holds (fun _ => ?_) (fun _ => ?_)
    | refine ⟨PreOk.mk ?_ rfl, ?_⟩
    | refine ⟨idx_ok _ _ _ rfl (by omega) (by omega), ?_⟩
    | refine ⟨okSh_ok _ _ _ (fun _ => rfl) (by omega) (by omega), ?_⟩
    | refine ⟨okSh_okD _ _ _ _ (fun _ => rfl) (by omega) (by omega), ?_⟩
    | refine ⟨aload_ok _ _ rfl (fun _ => rfl) (by omega) (by omega), ?_⟩
    | refine ⟨aload_okD _ _ _ rfl (fun _ => rfl) (by omega) (by omega), ?_⟩
    | refine ⟨astore_ok (by assumption) rfl (by omega) (by omega) (by decide), ?_⟩
    | refine ⟨app_ok (by assumption) rfl rfl (by simp only [List.length_cons, List.length_nil]; omega), ?_⟩
    | refine need_holds ?_ fun _ => ?_
    | refine all_holds fun y hy => ?_
    | refine ret_le ?_
  · exact hm
  · exact ⟨trivial, by omega, by omega⟩
  · exact ⟨trivial, by omega, by omega⟩
  · have er : ∀ n : Nat, (List.replicate n [D.int IntKind.i64 0]) = rowsOn (List.replicate n (0 : Int)) := fun n => (OnL.rep n (0 : Int)).1
    rw [Int.toNat_natCast]
    refine l_states0 p l how (placesS p) hm rfl (by omega) (0, _, _, _, _) ⟨by simp, by simp, ?_, ?_⟩
    · rw [show Int.toNat 0 = 0 from rfl, told_zero]; exact OnL.rep _ (0 : Int)
    · rw [show Int.toNat 0 = 0 from rfl, told_zero]; exact OnL.rep _ (0 : Int)
end Go.Proofs.Ytmhfhobaicklmaa.Ax
end

section
/- Rows of numbers in bytes: code.Put, arch.Numbers, arch.Code, auguryref1.Put, auguryref7.Ints, Code, Same. -/
namespace Go.Proofs.Ytmhfhobaicklmaa.Ax
open Go.RowKit
set_option linter.unusedVariables false
set_option linter.unusedSimpArgs false
structure By where
  v : Int
  deriving Inhabited, DecidableEq
instance : Row By := ⟨fun p => [.int .u8 p.v], fun r => ⟨asInt (r.getD 0 .nilp)⟩, fun _ => rfl, 1, fun _ => rfl⟩
instance : NoRef By := ⟨fun _ => rfl⟩
def by8 (v : Int) : Nat → List By
  | 0 => []
  | k + 1 => ⟨IntKind.wrap .u8 (Int.fdiv (IntKind.wrap .u64 v) (2 ^ (8 * k)))⟩ :: by8 v k
def bytes1 (v : Int) : List By := if -1 ≤ v ∧ v ≤ 253 then [⟨IntKind.wrap .u8 (IntKind.wrap .i64 (v + 1))⟩] else ⟨255⟩ :: by8 v 8
def bytesS (l : List Int) : List By := l.flatMap bytes1
def F_put (l : List Int) (k : Int) (R : List (List D)) (n : Nat) : St := ⟨mkS 42 [(3, vo 900003 n), (7, vr (rowsOn l)), (8, vi (rowsOn l).length), (9, vi k)], [(900003, ba 1 R)]⟩
def F_puti (l : List Int) (k v s : Int) (R : List (List D)) (n : Nat) : St := ⟨mkS 42 [(3, vo 900003 n), (5, vi v), (6, vi s), (7, vr (rowsOn l)), (8, vi (rowsOn l).length), (9, vi k)], [(900003, ba 1 R)]⟩
theorem take_rd {α : Type} [Row α] (l : List α) (k : Int) (h0 : 0 ≤ k) (h : k < l.length) : l.take (k + 1).toNat = l.take k.toNat ++ [rd l k] := by
  have hi : k.toNat < l.length := by omega
  have h1 : (k + 1).toNat = k.toNat + 1 := by omega
  rw [h1, List.take_succ_eq_append_getElem hi]
  congr 2
  have := rd_lt l k.toNat hi
  rw [← this]
  congr 1
  omega
theorem by8_len (v : Int) : ∀ k, (by8 v k).length = k
  | 0 => rfl
  | k + 1 => by simp [by8, by8_len v k]
theorem bytes1_len (v : Int) : (bytes1 v).length ≤ 9 := by
  unfold bytes1
  split
  · simp
  · simp [by8_len]
theorem bytesS_len : ∀ l : List Int, (bytesS l).length ≤ 9 * l.length
  | [] => by simp [bytesS]
  | v :: l => by
    have h1 := bytes1_len v
    have h2 := bytesS_len l
    simp only [bytesS, List.flatMap_cons, List.length_append, List.length_cons] at h2 ⊢
    omega
theorem bytesS_snoc (l : List Int) (v : Int) : bytesS (l ++ [v]) = bytesS l ++ bytes1 v := by simp [bytesS]
theorem bytesS_take_len (l : List Int) (k : Nat) (hl : l.length ≤ 1000000000) : (bytesS (l.take k)).length ≤ 9000000000 := by
  have := bytesS_len (l.take k)
  have := List.length_take_le k l
  have : (l.take k).length ≤ l.length := by rw [List.length_take]; omega
  omega
def rnum (s : Sta) : RR := .c (.new 1 (rowsOn (numsS s)))
def c_rInts : FT (Sta × Unit) := ⟨62, fun s => [as_ s.1], rdS, fun s => SmallS s.1, fun s => rnum s.1, false, fun s => by simp [as_, rdS]⟩
noncomputable def a_rInts : FnA := (fnA Try.prog Try.f62 1 []).getD ⟨0, .skip, [], []⟩
def s_rInts : Sp := spT []
theorem s_rInts_sound : s_rInts.sound Try.prog := spT_sound fun e he => by cases he
set_option maxRecDepth 100000 in
theorem t_rInts (s : Sta) : a_rInts.start s_rInts 400 [as_ s] =
(VC.need ((List.all (rowsOn s.mem) fun r ↦ List.length r == (1 : Nat)) = true ∧ (List.all [[D.int IntKind.i64 s.r0], [D.int IntKind.i64 s.r1], [D.int IntKind.i64 s.r2], [D.int IntKind.i64 s.r3], [D.int IntKind.i64 (↑(List.length (rowsOn s.mem)) : Int)]] fun r ↦ List.length r == (1 : Nat)) = true ∧ (List.length [[D.int IntKind.i64 s.r0], [D.int IntKind.i64 s.r1], [D.int IntKind.i64 s.r2], [D.int IntKind.i64 s.r3], [D.int IntKind.i64 (↑(List.length (rowsOn s.mem)) : Int)]] + List.length (rowsOn s.mem) + (100 : Nat)) * (9 : Nat) ≤ (70368744177664 : Nat))
(VC.need ((List.all [[D.int IntKind.i64 (↑(List.length (rowsOn s.stack)) : Int)]] fun r ↦ List.length r == (1 : Nat)) = true ∧ (List.all ([[D.int IntKind.i64 s.r0], [D.int IntKind.i64 s.r1], [D.int IntKind.i64 s.r2], [D.int IntKind.i64 s.r3], [D.int IntKind.i64 (↑(List.length (rowsOn s.mem)) : Int)]] ++ rowsOn s.mem) fun r ↦ List.length r == (1 : Nat)) = true ∧ (List.length ([[D.int IntKind.i64 s.r0], [D.int IntKind.i64 s.r1], [D.int IntKind.i64 s.r2], [D.int IntKind.i64 s.r3], [D.int IntKind.i64 (↑(List.length (rowsOn s.mem)) : Int)]] ++ rowsOn s.mem) + List.length [[D.int IntKind.i64 (↑(List.length (rowsOn s.stack)) : Int)]] + (100 : Nat)) * (9 : Nat) ≤ (70368744177664 : Nat))
(VC.need ((List.all (rowsOn s.stack) fun r ↦ List.length r == (1 : Nat)) = true ∧ (List.all ([[D.int IntKind.i64 s.r0], [D.int IntKind.i64 s.r1], [D.int IntKind.i64 s.r2], [D.int IntKind.i64 s.r3], [D.int IntKind.i64 (↑(List.length (rowsOn s.mem)) : Int)]] ++ rowsOn s.mem ++ [[D.int IntKind.i64 (↑(List.length (rowsOn s.stack)) : Int)]]) fun r ↦ List.length r == (1 : Nat)) = true ∧ (List.length ([[D.int IntKind.i64 s.r0], [D.int IntKind.i64 s.r1], [D.int IntKind.i64 s.r2], [D.int IntKind.i64 s.r3], [D.int IntKind.i64 (↑(List.length (rowsOn s.mem)) : Int)]] ++ rowsOn s.mem ++ [[D.int IntKind.i64 (↑(List.length (rowsOn s.stack)) : Int)]]) + List.length (rowsOn s.stack) + (100 : Nat)) * (9 : Nat) ≤ (70368744177664 : Nat))
(VC.need ((List.all [[D.int IntKind.i64 s.pc]] fun r ↦ List.length r == (1 : Nat)) = true ∧ (List.all ([[D.int IntKind.i64 s.r0], [D.int IntKind.i64 s.r1], [D.int IntKind.i64 s.r2], [D.int IntKind.i64 s.r3], [D.int IntKind.i64 (↑(List.length (rowsOn s.mem)) : Int)]] ++ rowsOn s.mem ++ [[D.int IntKind.i64 (↑(List.length (rowsOn s.stack)) : Int)]] ++ rowsOn s.stack) fun r ↦ List.length r == (1 : Nat)) = true ∧ (List.length ([[D.int IntKind.i64 s.r0], [D.int IntKind.i64 s.r1], [D.int IntKind.i64 s.r2], [D.int IntKind.i64 s.r3], [D.int IntKind.i64 (↑(List.length (rowsOn s.mem)) : Int)]] ++ rowsOn s.mem ++ [[D.int IntKind.i64 (↑(List.length (rowsOn s.stack)) : Int)]] ++ rowsOn s.stack) + List.length [[D.int IntKind.i64 s.pc]] + (100 : Nat)) * (9 : Nat) ≤ (70368744177664 : Nat))
(VC.ret (some (RR.c (Rc.new (1 : Nat) ([[D.int IntKind.i64 s.r0], [D.int IntKind.i64 s.r1], [D.int IntKind.i64 s.r2], [D.int IntKind.i64 s.r3], [D.int IntKind.i64 (↑(List.length (rowsOn s.mem)) : Int)]] ++ rowsOn s.mem ++ [[D.int IntKind.i64 (↑(List.length (rowsOn s.stack)) : Int)]] ++ rowsOn s.stack ++ [[D.int IntKind.i64 s.pc]]))))))))) := by kernel_rfl
theorem all1 (l : List Int) : ((rowsOn l).all fun r => r.length == 1) = true := rowsOn_all l 1 rfl
theorem rnum_eq (s : Sta) : ([[D.int .i64 s.r0], [.int .i64 s.r1], [.int .i64 s.r2], [.int .i64 s.r3], [.int .i64 ((rowsOn s.mem).length : Int)]] ++ rowsOn s.mem ++ [[.int .i64 ((rowsOn s.stack).length : Int)]] ++ rowsOn s.stack ++ [[.int .i64 s.pc]]) = rowsOn (numsS s) := by
  simp only [numsS, rowsOn_append, rowsOn_length]
  rfl
theorem c_rInts_good : c_rInts.fe.Good Try.prog := by
  refine FT.good c_rInts ⟨Try.f62, by kernel_rfl, by decide +kernel, by kernel_rfl⟩ (fun ⟨s, u⟩ => by first | rfl | simp [c_rInts, rrRef, rss, rnewI, rnewE, rstab, rplaces, ri, rb, rib, rnum, Sta.fresh]) fun ⟨s, u⟩ hp => ?_
  refine acalls_le s_rInts_sound (fn := Try.f62) (a := a_rInts) (nargs := 1) (tbl := []) (by kernel_rfl) (by kernel_rfl) rfl (m := 400) ?_
  show VC.holds _ _ _ (a_rInts.start s_rInts 400 [as_ s])
  rw [t_rInts]
  try simp only [asRows_sl, asInt_int, asBool_bool, asStr_str, listOf_rowsOn, List.drop_zero, Prg.eta, Sta.eta, rowsOn_length, getD_drop, Nat.reduceAdd, rd_int, rd_PMem_name, rd_PMem_secret, rd_PMem_n, rd_PLabel_name, rd_PLabel_at_, rd_Ins_kind, rd_Ins_op, rd_Ins_d, rd_Ins_aR, rd_Ins_aN, rd_Ins_bR, rd_Ins_bN, rd_Ins_name, rd_Ins_target, rd_Ent_pc, rd_Ent_val, rd_Ent_addr, rd_Ent_fro, rd_Ent_next, rd_Ent_done, rd_Ent_known, rd_Ent_fault, rd_Place_reg, rd_Place_n, rd_Place_secret, rd_Obs_kind, rd_Obs_at_, rd_Dir_kind, rd_Dir_n]
  try simp only [c_rInts] at hp
  obtain ⟨h1, h2⟩ := hp
  have e := rnum_eq s
  rw [rowsOn_length, rowsOn_length] at e
  rw [e]
  repeat' first
    | refine br_not ?_
    | refine br_dec (fun _ => ?_) (fun _ => ?_)
    | refine br_beq (fun _ => ?_) (fun _ => ?_)
    | refine br_bne (fun _ => ?_) (fun _ => ?_)
    | refine br_holds (fun _ => ?_) (fun _ => ?_)
    | refine ⟨PreOk.mk ?_ rfl, ?_⟩
    | refine ⟨idx_ok _ _ _ rfl (by omega) (by omega), ?_⟩
    | refine ⟨okSh_ok _ _ _ (fun _ => rfl) (by omega) (by omega), ?_⟩
    | refine ⟨okSh_okD _ _ _ _ (fun _ => rfl) (by omega) (by omega), ?_⟩
    | refine ⟨aload_ok _ _ rfl (fun _ => rfl) (by omega) (by omega), ?_⟩
    | refine ⟨aload_okD _ _ _ rfl (fun _ => rfl) (by omega) (by omega), ?_⟩
    | refine ⟨astore_ok (by assumption) rfl (by omega) (by omega) (by decide), ?_⟩
    | refine ⟨app_ok (by assumption) rfl rfl (by simp only [List.length_cons, List.length_nil]; omega), ?_⟩
    | refine need_holds ?_ fun _ => ?_
    | refine all_holds fun y hy => ?_
    | refine ret_le ?_
  all_goals try (refine ⟨?_, ?_, ?_⟩ <;> simp [all1, rowsOn_length] <;> omega)
  · exact RR.le_refl _
def rby (l : List By) : RR := .c (.new 1 (rowsOn l))
def codeS (s : Sta) : List By := bytesS (numsS s)
theorem nums_len (s : Sta) : (numsS s).length = s.mem.length + s.stack.length + 7 := by simp [numsS]; omega
def c_rPut : FT (List Int × Unit) := ⟨61, fun l => [al l.1], rdL, fun l => l.1.length ≤ 1000000000, fun l => .c (.new 1 (rowsOn (bytesS l.1))), false, fun l => by simp [al, rdL]⟩
noncomputable def a_rPut : FnA := (fnA Try.prog Try.f61 1 [(3, [0, 3, 4, 1000003000000900003001]), (10, [0, 3, 4, 5, 6, 1000003000000900003001])]).getD ⟨0, .skip, [], []⟩
def s_rPut : Sp := spT []
theorem s_rPut_sound : s_rPut.sound Try.prog := spT_sound fun e he => by cases he
def F_rPut (l : List Int) (k : Int) (R : List (List D)) (n : Nat) : St := ⟨mkS 47 [(0, vr (rowsOn l)), (3, vo 900003 n), (4, vi k)], [(900003, ba 1 R)]⟩
def F_rPuti (l : List Int) (k v s : Int) (R : List (List D)) (n : Nat) : St := ⟨mkS 47 [(0, vr (rowsOn l)), (3, vo 900003 n), (4, vi k), (5, vi v), (6, vi s)], [(900003, ba 1 R)]⟩
set_option maxRecDepth 100000 in
theorem t_rPut (l : List Int) : a_rPut.start s_rPut 400 [al l] =
(FnA.at_ a_rPut 0 (F_rPut l (0 : Int) [] (0 : Nat))) := by kernel_rfl
set_option maxRecDepth 100000 in
theorem t_rPut0 (l : List Int) (k : Int) (R : List (List D)) (n : Nat) : a_rPut.round s_rPut 400 0 (F_rPut l k R n) =
(VC.br (decide (k < (↑(List.length (rowsOn l)) : Int)))
 (VC.need ((0 : Int) ≤ k ∧ k < (↑(List.length (rowsOn l)) : Int) ∧ List.length (rowAt (rowsOn l) (Int.toNat k)) = (1 : Nat))
 (VC.need (okSh [Kd.int IntKind.i64] (rowAt (rowsOn l) (Int.toNat k)))
 (VC.br (decide ((-1 : Int) ≤ asInt (List.getD (rowAt (rowsOn l) (Int.toNat k)) (0 : Nat) D.nilp)))
  (VC.br (decide (asInt (List.getD (rowAt (rowsOn l) (Int.toNat k)) (0 : Nat) D.nilp) ≤ (253 : Int)))
   (VC.need ((List.all [[D.int IntKind.u8 (IntKind.wrap IntKind.u8 (IntKind.wrap IntKind.i64 (asInt (List.getD (rowAt (rowsOn l) (Int.toNat k)) (0 : Nat) D.nilp) + (1 : Int))))]] fun r ↦ List.length r == (1 : Nat)) = true ∧ (List.all R fun r ↦ List.length r == (1 : Nat)) = true ∧ (List.length R + List.length [[D.int IntKind.u8 (IntKind.wrap IntKind.u8 (IntKind.wrap IntKind.i64 (asInt (List.getD (rowAt (rowsOn l) (Int.toNat k)) (0 : Nat) D.nilp) + (1 : Int))))]] + (100 : Nat)) * (2 : Nat) ≤ (70368744177664 : Nat))
   (FnA.at_ a_rPut 0 (F_rPut l (IntKind.wrap IntKind.i64 (k + (1 : Int))) (R ++ [[D.int IntKind.u8 (IntKind.wrap IntKind.u8 (IntKind.wrap IntKind.i64 (asInt (List.getD (rowAt (rowsOn l) (Int.toNat k)) (0 : Nat) D.nilp) + (1 : Int))))]]) (List.length R + List.length [[D.int IntKind.u8 (IntKind.wrap IntKind.u8 (IntKind.wrap IntKind.i64 (asInt (List.getD (rowAt (rowsOn l) (Int.toNat k)) (0 : Nat) D.nilp) + (1 : Int))))]]))))
   (VC.need ((List.all [[D.int IntKind.u8 (255 : Int)]] fun r ↦ List.length r == (1 : Nat)) = true ∧ (List.all R fun r ↦ List.length r == (1 : Nat)) = true ∧ (List.length R + (1 : Nat) + (100 : Nat)) * (2 : Nat) ≤ (70368744177664 : Nat))
   (FnA.at_ a_rPut 1 (F_rPuti l k (asInt (List.getD (rowAt (rowsOn l) (Int.toNat k)) (0 : Nat) D.nilp)) (7 : Int) (R ++ [[D.int IntKind.u8 (255 : Int)]]) (List.length R + (1 : Nat))))))
  (VC.need ((List.all [[D.int IntKind.u8 (255 : Int)]] fun r ↦ List.length r == (1 : Nat)) = true ∧ (List.all R fun r ↦ List.length r == (1 : Nat)) = true ∧ (List.length R + (1 : Nat) + (100 : Nat)) * (2 : Nat) ≤ (70368744177664 : Nat))
  (FnA.at_ a_rPut 1 (F_rPuti l k (asInt (List.getD (rowAt (rowsOn l) (Int.toNat k)) (0 : Nat) D.nilp)) (7 : Int) (R ++ [[D.int IntKind.u8 (255 : Int)]]) (List.length R + (1 : Nat))))))))
 (VC.ret (some (RR.c (Rc.new (1 : Nat) R))))) := by kernel_rfl
set_option maxRecDepth 100000 in
theorem t_rPut1 (l : List Int) (k v s : Int) (R : List (List D)) (n : Nat) : a_rPut.round s_rPut 400 1 (F_rPuti l k v s R n) =
(VC.br (decide ((0 : Int) ≤ s))
 (VC.need ((0 : Int) ≤ IntKind.wrap IntKind.u64 (IntKind.wrap IntKind.i64 ((8 : Int) * s)))
 (VC.need ((List.all [[D.int IntKind.u8 (IntKind.wrap IntKind.u8 (Int.fdiv (IntKind.wrap IntKind.u64 v) ((2 : Int) ^ min (Int.toNat (IntKind.wrap IntKind.u64 (IntKind.wrap IntKind.i64 ((8 : Int) * s)))) (64 : Nat))))]] fun r ↦ List.length r == (1 : Nat)) = true ∧ (List.all R fun r ↦ List.length r == (1 : Nat)) = true ∧ (List.length R + List.length [[D.int IntKind.u8 (IntKind.wrap IntKind.u8 (Int.fdiv (IntKind.wrap IntKind.u64 v) ((2 : Int) ^ min (Int.toNat (IntKind.wrap IntKind.u64 (IntKind.wrap IntKind.i64 ((8 : Int) * s)))) (64 : Nat))))]] + (100 : Nat)) * (2 : Nat) ≤ (70368744177664 : Nat))
 (FnA.at_ a_rPut 1 (F_rPuti l k v (IntKind.wrap IntKind.i64 (s - (1 : Int))) (R ++ [[D.int IntKind.u8 (IntKind.wrap IntKind.u8 (Int.fdiv (IntKind.wrap IntKind.u64 v) ((2 : Int) ^ min (Int.toNat (IntKind.wrap IntKind.u64 (IntKind.wrap IntKind.i64 ((8 : Int) * s)))) (64 : Nat))))]]) (List.length R + List.length [[D.int IntKind.u8 (IntKind.wrap IntKind.u8 (Int.fdiv (IntKind.wrap IntKind.u64 v) ((2 : Int) ^ min (Int.toNat (IntKind.wrap IntKind.u64 (IntKind.wrap IntKind.i64 ((8 : Int) * s)))) (64 : Nat))))]])))))
 (FnA.at_ a_rPut 0 (F_rPut l (IntKind.wrap IntKind.i64 (k + (1 : Int))) R n))) := by kernel_rfl
theorem l_rPut1 (l : List Int) (k v : Int) (Q : RR → Prop) (out : List By) (hl : l.length ≤ 1000000000) (hk : 0 ≤ k ∧ k < l.length) (ho : out.length ≤ 10000000000)
    (cont : ∀ R n, OnL R n out → (a_rPut.at_ 0 (F_rPut l (k + 1) R n)).holds s_rPut.cx a_rPut.rs Q) : ∀ (j : Nat) (s : Int) (R : List (List D)) (n : Nat) (acc : List By), j ≤ 8 → s = (j : Int) - 1 → OnL R n acc → acc ++ by8 v j = out → (a_rPut.at_ 1 (F_rPuti l k v s R n)).holds s_rPut.cx a_rPut.rs Q := by
  intro j
  induction j with
  | zero =>
    intro s R n acc _ hs h1 h2
    refine at_of_round s_rPut_sound (m := 400) ?_
    rw [t_rPut1, wrap_small (k + 1) (by omega) (by omega)]
    refine br_dec (fun h => by omega) (fun h => ?_)
    refine cont R n ?_
    rw [← h2]
    simpa [by8] using h1
  | succ j ih =>
    intro s R n acc hj hs h1 h2
    refine at_of_round s_rPut_sound (m := 400) ?_
    have hlen : acc.length + (j + 1) = out.length := by rw [← h2, List.length_append, by8_len]
    have e0 : IntKind.wrap .u64 (8 * s) = 8 * s := by
      have : IntKind.wrap .u64 (8 * s) = (8 * s) % 18446744073709551616 := rfl
      omega
    rw [t_rPut1, wrap_small (k + 1) (by omega) (by omega), wrap_small (s - 1) (by omega) (by omega), wrap_small (8 * s) (by omega) (by omega), e0]
    have e : min (Int.toNat (8 * s)) 64 = 8 * j := by omega
    rw [e]
    refine br_dec (fun h => ?_) (fun h => by omega)
    refine ⟨by omega, app_ok h1 rfl rfl (by simp only [List.length_cons, List.length_nil]; omega), ?_⟩
    refine ih (s - 1) _ _ _ (by omega) (by omega) (h1.snoc (⟨_⟩ : By)) ?_
    rw [← h2, List.append_assoc]
    rfl
theorem l_rPut0 (l : List Int) (hl : l.length ≤ 1000000000) : ∀ i_ : Int × List (List D) × Nat, (fun (i : Int × List (List D) × Nat) => 0 ≤ i.1 ∧ i.1 ≤ l.length ∧ OnL i.2.1 i.2.2 (bytesS (l.take i.1.toNat))) i_ → (a_rPut.at_ 0 ((fun (i : Int × List (List D) × Nat) => F_rPut l i.1 i.2.1 i.2.2) i_)).holds s_rPut.cx a_rPut.rs (fun r => r.le (.c (.new 1 (rowsOn (bytesS l))))) := by
  refine loop_rule (a := a_rPut) (j := 0) (m := 400) s_rPut_sound (fun (i : Int × List (List D) × Nat) => F_rPut l i.1 i.2.1 i.2.2) (fun (i : Int × List (List D) × Nat) => 0 ≤ i.1 ∧ i.1 ≤ l.length ∧ OnL i.2.1 i.2.2 (bytesS (l.take i.1.toNat))) (fun (i : Int × List (List D) × Nat) => ((l.length : Int) - i.1).toNat) ?_
  rintro ⟨k, R, n⟩ h_inv ih
  try dsimp only at h_inv
  replace ih := fun (v0 : Int) (v1 : List (List D)) (v2 : Nat) => ih (v0, v1, v2)
  try dsimp only at ih
  show VC.holds _ _ _ (a_rPut.round s_rPut 400 0 (F_rPut l k R n))
  rw [t_rPut0]
  try simp only [asRows_sl, asInt_int, asBool_bool, asStr_str, listOf_rowsOn, List.drop_zero, Prg.eta, Sta.eta, rowsOn_length, getD_drop, Nat.reduceAdd, rd_int, rd_PMem_name, rd_PMem_secret, rd_PMem_n, rd_PLabel_name, rd_PLabel_at_, rd_Ins_kind, rd_Ins_op, rd_Ins_d, rd_Ins_aR, rd_Ins_aN, rd_Ins_bR, rd_Ins_bN, rd_Ins_name, rd_Ins_target, rd_Ent_pc, rd_Ent_val, rd_Ent_addr, rd_Ent_fro, rd_Ent_next, rd_Ent_done, rd_Ent_known, rd_Ent_fault, rd_Place_reg, rd_Place_n, rd_Place_secret, rd_Obs_kind, rd_Obs_at_, rd_Dir_kind, rd_Dir_n]
  obtain ⟨h0, h1, h2⟩ := h_inv
  have w1 : IntKind.wrap .i64 (k + 1) = k + 1 := wrap_small _ (by omega) (by omega)
  have hb := bytesS_take_len l k.toNat hl
  try rw [w1]
  repeat' first
    | refine br_not ?_
    | refine br_dec (fun _ => ?_) (fun _ => ?_)
    | refine br_beq (fun _ => ?_) (fun _ => ?_)
    | refine br_bne (fun _ => ?_) (fun _ => ?_)
    | refine br_holds (fun _ => ?_) (fun _ => ?_)
    | refine ⟨PreOk.mk ?_ rfl, ?_⟩
    | refine ⟨idx_ok _ _ _ rfl (by omega) (by omega), ?_⟩
    | refine ⟨okSh_ok _ _ _ (fun _ => rfl) (by omega) (by omega), ?_⟩
    | refine ⟨okSh_okD _ _ _ _ (fun _ => rfl) (by omega) (by omega), ?_⟩
    | refine ⟨aload_ok _ _ rfl (fun _ => rfl) (by omega) (by omega), ?_⟩
    | refine ⟨aload_okD _ _ _ rfl (fun _ => rfl) (by omega) (by omega), ?_⟩
    | refine ⟨astore_ok (by assumption) rfl (by omega) (by omega) (by decide), ?_⟩
    | refine ⟨app_ok (by assumption) rfl rfl (by simp only [List.length_cons, List.length_nil]; omega), ?_⟩
    | refine need_holds ?_ fun _ => ?_
    | refine all_holds fun y hy => ?_
    | refine ret_le ?_
  · rename_i hk _ _
    refine ih _ _ _ ⟨by omega, by omega, ?_⟩ (by omega)
    rw [take_rd l k h0 hk, bytesS_snoc]
    have e : bytes1 (rd l k) = [⟨IntKind.wrap .u8 (IntKind.wrap .i64 (rd l k + 1))⟩] := by unfold bytes1; rw [if_pos ⟨‹_›, ‹_›⟩]
    rw [e]
    exact h2.snoc (⟨_⟩ : By)
  · rename_i hk _ _
    have e : bytes1 (rd l k) = ⟨255⟩ :: by8 (rd l k) 8 := by unfold bytes1; rw [if_neg (by omega)]
    have hb' := bytesS_take_len l (k + 1).toNat hl
    refine l_rPut1 l k (rd l k) _ (bytesS (l.take (k + 1).toNat)) hl ⟨h0, hk⟩ (by omega) (fun R n h => ih _ _ _ ⟨by omega, by omega, h⟩ (by omega)) 8 7 _ _ _ (by omega) (by omega) (h2.snoc (⟨255⟩ : By)) ?_
    rw [take_rd l k h0 hk, bytesS_snoc, e]
    simp
  · rename_i hk _
    have e : bytes1 (rd l k) = ⟨255⟩ :: by8 (rd l k) 8 := by unfold bytes1; rw [if_neg (by omega)]
    have hb' := bytesS_take_len l (k + 1).toNat hl
    refine l_rPut1 l k (rd l k) _ (bytesS (l.take (k + 1).toNat)) hl ⟨h0, hk⟩ (by omega) (fun R n h => ih _ _ _ ⟨by omega, by omega, h⟩ (by omega)) 8 7 _ _ _ (by omega) (by omega) (h2.snoc (⟨255⟩ : By)) ?_
    rw [take_rd l k h0 hk, bytesS_snoc, e]
    simp
  · have hk : k.toNat = l.length := by omega
    rw [hk, List.take_length] at h2
    rw [h2.1]
    exact RR.le_refl _
theorem c_rPut_good : c_rPut.fe.Good Try.prog := by
  refine FT.good c_rPut ⟨Try.f61, by kernel_rfl, by decide +kernel, by kernel_rfl⟩ (fun ⟨l, u⟩ => by first | rfl | simp [c_rPut, rrRef, rss, rnewI, rnewE, rstab, rplaces, ri, rb, rib, rnum, rby, Sta.fresh]) fun ⟨l, u⟩ hp => ?_
  refine acalls_le s_rPut_sound (fn := Try.f61) (a := a_rPut) (nargs := 1) (tbl := [(3, [0, 3, 4, 1000003000000900003001]), (10, [0, 3, 4, 5, 6, 1000003000000900003001])]) (by kernel_rfl) (by kernel_rfl) rfl (m := 400) ?_
  show VC.holds _ _ _ (a_rPut.start s_rPut 400 [al l])
  rw [t_rPut]
  try simp only [asRows_sl, asInt_int, asBool_bool, asStr_str, listOf_rowsOn, List.drop_zero, Prg.eta, Sta.eta, rowsOn_length, getD_drop, Nat.reduceAdd, rd_int, rd_PMem_name, rd_PMem_secret, rd_PMem_n, rd_PLabel_name, rd_PLabel_at_, rd_Ins_kind, rd_Ins_op, rd_Ins_d, rd_Ins_aR, rd_Ins_aN, rd_Ins_bR, rd_Ins_bN, rd_Ins_name, rd_Ins_target, rd_Ent_pc, rd_Ent_val, rd_Ent_addr, rd_Ent_fro, rd_Ent_next, rd_Ent_done, rd_Ent_known, rd_Ent_fault, rd_Place_reg, rd_Place_n, rd_Place_secret, rd_Obs_kind, rd_Obs_at_, rd_Dir_kind, rd_Dir_n]
  try simp only [c_rPut] at hp
  repeat' first
    | refine br_not ?_
    | refine br_dec (fun _ => ?_) (fun _ => ?_)
    | refine br_beq (fun _ => ?_) (fun _ => ?_)
    | refine br_bne (fun _ => ?_) (fun _ => ?_)
    | refine br_holds (fun _ => ?_) (fun _ => ?_)
    | refine ⟨PreOk.mk ?_ rfl, ?_⟩
    | refine ⟨idx_ok _ _ _ rfl (by omega) (by omega), ?_⟩
    | refine ⟨okSh_ok _ _ _ (fun _ => rfl) (by omega) (by omega), ?_⟩
    | refine ⟨okSh_okD _ _ _ _ (fun _ => rfl) (by omega) (by omega), ?_⟩
    | refine ⟨aload_ok _ _ rfl (fun _ => rfl) (by omega) (by omega), ?_⟩
    | refine ⟨aload_okD _ _ _ rfl (fun _ => rfl) (by omega) (by omega), ?_⟩
    | refine ⟨astore_ok (by assumption) rfl (by omega) (by omega) (by decide), ?_⟩
    | refine ⟨app_ok (by assumption) rfl rfl (by simp only [List.length_cons, List.length_nil]; omega), ?_⟩
    | refine need_holds ?_ fun _ => ?_
    | refine all_holds fun y hy => ?_
    | refine ret_le ?_
  exact l_rPut0 l hp (0, [], 0) ⟨by simp, by simp, by simpa [bytesS] using OnL.nil⟩
def c_rSameI : FT (List Int × List Int) := ⟨74, fun x => [al x.1, al x.2], rdLL, fun x => x.1.length ≤ 1000000000, fun x => rb (decide (x.1 = x.2)), false, fun x => by simp [al, rdLL]⟩
noncomputable def a_rSameI : FnA := (fnA Try.prog Try.f74 2 [(4, [0, 1, 5])]).getD ⟨0, .skip, [], []⟩
def s_rSameI : Sp := spT []
theorem s_rSameI_sound : s_rSameI.sound Try.prog := spT_sound fun e he => by cases he
def F_rSameI (a b : List Int) (k : Int) : St := ⟨mkS 26 [(0, vr (rowsOn a)), (1, vr (rowsOn b)), (5, vi k)], []⟩
set_option maxRecDepth 100000 in
theorem t_rSameI (a b : List Int) : a_rSameI.start s_rSameI 400 [al a, al b] =
(VC.br ((↑(List.length (rowsOn a)) : Int) != (↑(List.length (rowsOn b)) : Int))
 (VC.ret (some (RR.c (Rc.d (D.bool false)))))
 (FnA.at_ a_rSameI 0 (F_rSameI a b (0 : Int)))) := by kernel_rfl
set_option maxRecDepth 100000 in
theorem t_rSameI0 (a b : List Int) (k : Int) : a_rSameI.round s_rSameI 400 0 (F_rSameI a b k) =
(VC.br (decide (k < (↑(List.length (rowsOn a)) : Int)))
 (VC.need ((0 : Int) ≤ k ∧ k < (↑(List.length (rowsOn a)) : Int) ∧ List.length (rowAt (rowsOn a) (Int.toNat k)) = (1 : Nat))
 (VC.need (okSh [Kd.int IntKind.i64] (rowAt (rowsOn a) (Int.toNat k)))
 (VC.need ((0 : Int) ≤ k ∧ k < (↑(List.length (rowsOn b)) : Int) ∧ List.length (rowAt (rowsOn b) (Int.toNat k)) = (1 : Nat))
 (VC.need (okSh [Kd.int IntKind.i64] (rowAt (rowsOn b) (Int.toNat k)))
 (VC.br (asInt (List.getD (rowAt (rowsOn a) (Int.toNat k)) (0 : Nat) D.nilp) != asInt (List.getD (rowAt (rowsOn b) (Int.toNat k)) (0 : Nat) D.nilp))
  (VC.ret (some (RR.c (Rc.d (D.bool false)))))
  (FnA.at_ a_rSameI 0 (F_rSameI a b (IntKind.wrap IntKind.i64 (k + (1 : Int))))))))))
 (VC.ret (some (RR.c (Rc.d (D.bool true)))))) := by kernel_rfl
theorem eq_dropG {α : Type} [Row α] {a b : List α} {k : Int} (hl : a.length = b.length) (h0 : 0 ≤ k) (h1 : k < a.length) : (a.drop k.toNat = b.drop k.toNat) ↔ rd a k = rd b k ∧ a.drop (k + 1).toNat = b.drop (k + 1).toNat := by
  rw [drop_rd a k h0 h1, drop_rd b k h0 (by omega)]
  simp
theorem l_rSameI0 (a b : List Int) (res : Bool) (hl : a.length = b.length) (hb : a.length ≤ 1000000000) : ∀ i_ : Int, (fun (i : Int) => 0 ≤ i ∧ i ≤ a.length ∧ decide (a.drop i.toNat = b.drop i.toNat) = res) i_ → (a_rSameI.at_ 0 ((fun (i : Int) => F_rSameI a b i) i_)).holds s_rSameI.cx a_rSameI.rs (fun r => r.le (rb res)) := by
  refine loop_rule (a := a_rSameI) (j := 0) (m := 400) s_rSameI_sound (fun (i : Int) => F_rSameI a b i) (fun (i : Int) => 0 ≤ i ∧ i ≤ a.length ∧ decide (a.drop i.toNat = b.drop i.toNat) = res) (fun (i : Int) => ((a.length : Int) - i).toNat) ?_
  rintro k h_inv ih
  try dsimp only at h_inv
  show VC.holds _ _ _ (a_rSameI.round s_rSameI 400 0 (F_rSameI a b k))
  rw [t_rSameI0]
  try simp only [asRows_sl, asInt_int, asBool_bool, asStr_str, listOf_rowsOn, List.drop_zero, Prg.eta, Sta.eta, rowsOn_length, getD_drop, Nat.reduceAdd, rd_int, rd_PMem_name, rd_PMem_secret, rd_PMem_n, rd_PLabel_name, rd_PLabel_at_, rd_Ins_kind, rd_Ins_op, rd_Ins_d, rd_Ins_aR, rd_Ins_aN, rd_Ins_bR, rd_Ins_bN, rd_Ins_name, rd_Ins_target, rd_Ent_pc, rd_Ent_val, rd_Ent_addr, rd_Ent_fro, rd_Ent_next, rd_Ent_done, rd_Ent_known, rd_Ent_fault, rd_Place_reg, rd_Place_n, rd_Place_secret, rd_Obs_kind, rd_Obs_at_, rd_Dir_kind, rd_Dir_n]
  obtain ⟨h0, h1, h2⟩ := h_inv
  have w1 : IntKind.wrap .i64 (k + 1) = k + 1 := wrap_small _ (by omega) (by omega)
  rw [w1]
  repeat' first
    | refine br_not ?_
    | refine br_dec (fun _ => ?_) (fun _ => ?_)
    | refine br_beq (fun _ => ?_) (fun _ => ?_)
    | refine br_bne (fun _ => ?_) (fun _ => ?_)
    | refine br_holds (fun _ => ?_) (fun _ => ?_)
    | refine ⟨PreOk.mk ?_ rfl, ?_⟩
    | refine ⟨idx_ok _ _ _ rfl (by omega) (by omega), ?_⟩
    | refine ⟨okSh_ok _ _ _ (fun _ => rfl) (by omega) (by omega), ?_⟩
    | refine ⟨okSh_okD _ _ _ _ (fun _ => rfl) (by omega) (by omega), ?_⟩
    | refine ⟨aload_ok _ _ rfl (fun _ => rfl) (by omega) (by omega), ?_⟩
    | refine ⟨aload_okD _ _ _ rfl (fun _ => rfl) (by omega) (by omega), ?_⟩
    | refine ⟨astore_ok (by assumption) rfl (by omega) (by omega) (by decide), ?_⟩
    | refine ⟨app_ok (by assumption) rfl rfl (by simp only [List.length_cons, List.length_nil]; omega), ?_⟩
    | refine need_holds ?_ fun _ => ?_
    | refine all_holds fun y hy => ?_
    | refine ret_le ?_
    | refine ih _ ?_ ?_
  all_goals try omega
  · refine ⟨by omega, by omega, ?_⟩
    rw [← h2]
    exact decide_eq_decide.2 ⟨fun h => (eq_dropG hl h0 ‹_›).2 ⟨‹_›, h⟩, fun h => ((eq_dropG hl h0 ‹_›).1 h).2⟩
  · refine rb_le ?_
    rw [← h2]
    exact (decide_eq_false fun h => absurd ((eq_dropG hl h0 ‹_›).1 h).1 ‹_›).symm
  · refine rb_le ?_
    have hk : k.toNat = a.length := by omega
    rw [← h2, hk, List.drop_length, hl, List.drop_length]
    rfl
theorem c_rSameI_good : c_rSameI.fe.Good Try.prog := by
  refine FT.good c_rSameI ⟨Try.f74, by kernel_rfl, by decide +kernel, by kernel_rfl⟩ (fun ⟨a, b⟩ => by first | rfl | simp [c_rSameI, rrRef, rss, rnewI, rnewE, rstab, rplaces, ri, rb, rib, rnum, rby, Sta.fresh]) fun ⟨a, b⟩ hp => ?_
  refine acalls_le s_rSameI_sound (fn := Try.f74) (a := a_rSameI) (nargs := 2) (tbl := [(4, [0, 1, 5])]) (by kernel_rfl) (by kernel_rfl) rfl (m := 400) ?_
  show VC.holds _ _ _ (a_rSameI.start s_rSameI 400 [al a, al b])
  rw [t_rSameI]
  try simp only [asRows_sl, asInt_int, asBool_bool, asStr_str, listOf_rowsOn, List.drop_zero, Prg.eta, Sta.eta, rowsOn_length, getD_drop, Nat.reduceAdd, rd_int, rd_PMem_name, rd_PMem_secret, rd_PMem_n, rd_PLabel_name, rd_PLabel_at_, rd_Ins_kind, rd_Ins_op, rd_Ins_d, rd_Ins_aR, rd_Ins_aN, rd_Ins_bR, rd_Ins_bN, rd_Ins_name, rd_Ins_target, rd_Ent_pc, rd_Ent_val, rd_Ent_addr, rd_Ent_fro, rd_Ent_next, rd_Ent_done, rd_Ent_known, rd_Ent_fault, rd_Place_reg, rd_Place_n, rd_Place_secret, rd_Obs_kind, rd_Obs_at_, rd_Dir_kind, rd_Dir_n]
  try simp only [c_rSameI] at hp
  repeat' first
    | refine br_not ?_
    | refine br_dec (fun _ => ?_) (fun _ => ?_)
    | refine br_beq (fun _ => ?_) (fun _ => ?_)
    | refine br_bne (fun _ => ?_) (fun _ => ?_)
    | refine br_holds (fun _ => ?_) (fun _ => ?_)
    | refine ⟨PreOk.mk ?_ rfl, ?_⟩
    | refine ⟨idx_ok _ _ _ rfl (by omega) (by omega), ?_⟩
    | refine ⟨okSh_ok _ _ _ (fun _ => rfl) (by omega) (by omega), ?_⟩
    | refine ⟨okSh_okD _ _ _ _ (fun _ => rfl) (by omega) (by omega), ?_⟩
    | refine ⟨aload_ok _ _ rfl (fun _ => rfl) (by omega) (by omega), ?_⟩
    | refine ⟨aload_okD _ _ _ rfl (fun _ => rfl) (by omega) (by omega), ?_⟩
    | refine ⟨astore_ok (by assumption) rfl (by omega) (by omega) (by decide), ?_⟩
    | refine ⟨app_ok (by assumption) rfl rfl (by simp only [List.length_cons, List.length_nil]; omega), ?_⟩
    | refine need_holds ?_ fun _ => ?_
    | refine all_holds fun y hy => ?_
    | refine ret_le ?_
  · have e : c_rSameI.ans (a, b) = rb (decide (a = b)) := rfl
    rw [e]
    exact l_rSameI0 a b _ (by omega) hp 0 ⟨by omega, by omega, by simp⟩
  · exact rb_le (decide_eq_false fun h => by have h : a = b := h; subst h; omega).symm
end Go.Proofs.Ytmhfhobaicklmaa.Ax
end

section
/- States in bytes, by the document: auguryref7.Code, Same; what numbers tell of a state. -/
namespace Go.Proofs.Ytmhfhobaicklmaa.Ax
open Go.RowKit
set_option linter.unusedVariables false
set_option linter.unusedSimpArgs false
theorem numsS_inj {a b : Sta} (h : numsS a = numsS b) : a = b := by
  have hl : a.mem.length = b.mem.length := by
    have : (a.mem.length : Int) = b.mem.length := by
      have := congrArg (fun l : List Int => l.getD 4 0) h
      simpa [numsS] using this
    exact_mod_cast this
  unfold numsS at h
  simp only [List.cons_append, List.nil_append, List.cons.injEq, List.append_assoc] at h
  obtain ⟨h0, h1, h2, h3, _, h4⟩ := h
  obtain ⟨h5, h6⟩ := List.append_inj h4 hl
  simp only [List.cons.injEq] at h6
  obtain ⟨h7, h8⟩ := h6
  obtain ⟨h9, h10⟩ := List.append_inj h8 (by omega)
  simp only [List.cons.injEq, and_true] at h10
  exact Sta.eq_iff.2 ⟨h0, h1, h2, h3, h5, h9, h10⟩
noncomputable def v_rInts : Sta × Unit → List Int := fun x => numsS x.1
noncomputable def sh_rInts : List Int → RR := fun l => .c (.new 1 (rowsOn l))
theorem e_rInts (x : Sta × Unit) : sh_rInts (v_rInts x) = c_rInts.ans x := rfl
def c_rCode : FT (Sta × Unit) := ⟨31, fun s => [as_ s.1], rdS, fun s => SmallS s.1, fun s => rby (codeS s.1), false, fun s => by simp [as_, rdS]⟩
noncomputable def a_rCode : FnA := (fnA Try.prog Try.f31 1 []).getD ⟨0, .skip, [], []⟩
noncomputable def s_rCode : Sp := spT [c_rInts.gfe v_rInts sh_rInts e_rInts, c_rPut.fe]
theorem s_rCode_sound : s_rCode.sound Try.prog := spT_sound fun e he => by
  simp only [List.mem_cons, List.not_mem_nil, or_false] at he
  rcases he with rfl | rfl
  · exact FT.gfe_good c_rInts_good
  · exact c_rPut_good
set_option maxRecDepth 100000 in
theorem t_rCode (s : Sta) : a_rCode.start s_rCode 400 [as_ s] =
(VC.need (PreOk c_rInts (Sta.of (Sta.cells s), ()) [A.agg (Sta.cells s)])
(VC.all (v_rInts (Sta.of (Sta.cells s), ())) fun (y1 : List Int) =>
(VC.need (PreOk c_rPut (y1, ()) [A.c (D.sl (rowsOn y1))])
(VC.ret (some (RR.c (Rc.new (1 : Nat) (rowsOn (bytesS (listOf Int (rowsOn y1))))))))))) := by kernel_rfl
theorem c_rCode_good : c_rCode.fe.Good Try.prog := by
  refine FT.good c_rCode ⟨Try.f31, by kernel_rfl, by decide +kernel, by kernel_rfl⟩ (fun ⟨s, u⟩ => by first | rfl | simp [c_rCode, rrRef, rnum, rby, rss, rnewI, rnewE, rstab, rplaces, ri, rb, rib, Sta.fresh]) fun ⟨s, u⟩ hp => ?_
  refine acalls_le s_rCode_sound (fn := Try.f31) (a := a_rCode) (nargs := 1) (tbl := []) (by kernel_rfl) (by kernel_rfl) rfl (m := 400) ?_
  show VC.holds _ _ _ (a_rCode.start s_rCode 400 [as_ s])
  rw [t_rCode]
  try simp only [asRows_sl, asInt_int, asBool_bool, asStr_str, listOf_rowsOn, List.drop_zero, Prg.eta, Sta.eta, rowsOn_length, getD_drop, Nat.reduceAdd, rd_int, rd_PMem_name, rd_PMem_secret, rd_PMem_n, rd_PLabel_name, rd_PLabel_at_, rd_Ins_kind, rd_Ins_op, rd_Ins_d, rd_Ins_aR, rd_Ins_aN, rd_Ins_bR, rd_Ins_bN, rd_Ins_name, rd_Ins_target, rd_Ent_pc, rd_Ent_val, rd_Ent_addr, rd_Ent_fro, rd_Ent_next, rd_Ent_done, rd_Ent_known, rd_Ent_fault, rd_Place_reg, rd_Place_n, rd_Place_secret, rd_Obs_kind, rd_Obs_at_, rd_Dir_kind, rd_Dir_n]
  try simp only [c_rCode] at hp
  obtain ⟨h1, h2⟩ := hp
  have hl := nums_len s
  simp only [Sta.of_cells]
  repeat' first
    | refine br_not ?_
    | refine br_dec (fun _ => ?_) (fun _ => ?_)
    | refine br_beq (fun _ => ?_) (fun _ => ?_)
    | refine br_bne (fun _ => ?_) (fun _ => ?_)
    | refine br_holds (fun _ => ?_) (fun _ => ?_)
    | refine ⟨PreOk.mk ?_ rfl, ?_⟩
    | refine ⟨idx_ok _ _ _ rfl (by omega) (by omega), ?_⟩
    | refine ⟨okSh_ok _ _ _ (fun _ => rfl) (by omega) (by omega), ?_⟩
    | refine ⟨okSh_okD _ _ _ _ (fun _ => rfl) (by omega) (by omega), ?_⟩
    | refine ⟨aload_ok _ _ rfl (fun _ => rfl) (by omega) (by omega), ?_⟩
    | refine ⟨aload_okD _ _ _ rfl (fun _ => rfl) (by omega) (by omega), ?_⟩
    | refine ⟨astore_ok (by assumption) rfl (by omega) (by omega) (by decide), ?_⟩
    | refine ⟨app_ok (by assumption) rfl rfl (by simp only [List.length_cons, List.length_nil]; omega), ?_⟩
    | refine need_holds ?_ fun _ => ?_
    | refine all_holds fun y hy => ?_
    | refine ret_le ?_
  · exact ⟨h1, h2⟩
  · subst y
    show (numsS s).length ≤ 1000000000
    omega
  · subst y
    exact RR.le_refl _
def c_rSame : FT (Sta × Sta) := ⟨34, fun x => [as_ x.1, as_ x.2], rdSS, fun x => SmallS x.1 ∧ SmallS x.2, fun x => rb (decide (x.1 = x.2)), false, fun s => by simp [as_, rdSS]⟩
noncomputable def a_rSame : FnA := (fnA Try.prog Try.f34 2 []).getD ⟨0, .skip, [], []⟩
noncomputable def s_rSame : Sp := spT [c_rInts.gfe v_rInts sh_rInts e_rInts, c_rSameI.fe]
theorem s_rSame_sound : s_rSame.sound Try.prog := spT_sound fun e he => by
  simp only [List.mem_cons, List.not_mem_nil, or_false] at he
  rcases he with rfl | rfl
  · exact FT.gfe_good c_rInts_good
  · exact c_rSameI_good
set_option maxRecDepth 100000 in
theorem t_rSame (s t : Sta) : a_rSame.start s_rSame 400 [as_ s, as_ t] =
(VC.need (PreOk c_rInts (Sta.of (Sta.cells s), ()) [A.agg (Sta.cells s)])
(VC.all (v_rInts (Sta.of (Sta.cells s), ())) fun (y2 : List Int) =>
(VC.need (PreOk c_rInts (Sta.of (Sta.cells t), ()) [A.agg (Sta.cells t)])
(VC.all (v_rInts (Sta.of (Sta.cells t), ())) fun (y3 : List Int) =>
(VC.need (PreOk c_rSameI (y2, y3) [A.c (D.sl (rowsOn y2)), A.c (D.sl (rowsOn y3))])
(VC.ret (some (RR.c (Rc.d (D.bool (decide (listOf Int (rowsOn y2) = listOf Int (rowsOn y3))))))))))))) := by kernel_rfl
theorem c_rSame_good : c_rSame.fe.Good Try.prog := by
  refine FT.good c_rSame ⟨Try.f34, by kernel_rfl, by decide +kernel, by kernel_rfl⟩ (fun ⟨s, t⟩ => by first | rfl | simp [c_rSame, rrRef, rnum, rby, rss, rnewI, rnewE, rstab, rplaces, ri, rb, rib, Sta.fresh]) fun ⟨s, t⟩ hp => ?_
  refine acalls_le s_rSame_sound (fn := Try.f34) (a := a_rSame) (nargs := 2) (tbl := []) (by kernel_rfl) (by kernel_rfl) rfl (m := 400) ?_
  show VC.holds _ _ _ (a_rSame.start s_rSame 400 [as_ s, as_ t])
  rw [t_rSame]
  try simp only [asRows_sl, asInt_int, asBool_bool, asStr_str, listOf_rowsOn, List.drop_zero, Prg.eta, Sta.eta, rowsOn_length, getD_drop, Nat.reduceAdd, rd_int, rd_PMem_name, rd_PMem_secret, rd_PMem_n, rd_PLabel_name, rd_PLabel_at_, rd_Ins_kind, rd_Ins_op, rd_Ins_d, rd_Ins_aR, rd_Ins_aN, rd_Ins_bR, rd_Ins_bN, rd_Ins_name, rd_Ins_target, rd_Ent_pc, rd_Ent_val, rd_Ent_addr, rd_Ent_fro, rd_Ent_next, rd_Ent_done, rd_Ent_known, rd_Ent_fault, rd_Place_reg, rd_Place_n, rd_Place_secret, rd_Obs_kind, rd_Obs_at_, rd_Dir_kind, rd_Dir_n]
  try simp only [c_rSame] at hp
  obtain ⟨⟨h1, h2⟩, ⟨h3, h4⟩⟩ := hp
  have hl := nums_len s
  simp only [Sta.of_cells]
  repeat' first
    | refine br_not ?_
    | refine br_dec (fun _ => ?_) (fun _ => ?_)
    | refine br_beq (fun _ => ?_) (fun _ => ?_)
    | refine br_bne (fun _ => ?_) (fun _ => ?_)
    | refine br_holds (fun _ => ?_) (fun _ => ?_)
    | refine ⟨PreOk.mk ?_ rfl, ?_⟩
    | refine ⟨idx_ok _ _ _ rfl (by omega) (by omega), ?_⟩
    | refine ⟨okSh_ok _ _ _ (fun _ => rfl) (by omega) (by omega), ?_⟩
    | refine ⟨okSh_okD _ _ _ _ (fun _ => rfl) (by omega) (by omega), ?_⟩
    | refine ⟨aload_ok _ _ rfl (fun _ => rfl) (by omega) (by omega), ?_⟩
    | refine ⟨aload_okD _ _ _ rfl (fun _ => rfl) (by omega) (by omega), ?_⟩
    | refine ⟨astore_ok (by assumption) rfl (by omega) (by omega) (by decide), ?_⟩
    | refine ⟨app_ok (by assumption) rfl rfl (by simp only [List.length_cons, List.length_nil]; omega), ?_⟩
    | refine need_holds ?_ fun _ => ?_
    | refine all_holds fun y hy => ?_
    | refine ret_le ?_
  · exact ⟨h1, h2⟩
  · exact ⟨h3, h4⟩
  · subst_vars
    show (numsS s).length ≤ 1000000000
    omega
  · subst_vars
    exact rb_le (decide_eq_decide.2 ⟨numsS_inj, fun h => by have h : s = t := h; subst h; rfl⟩)
end Go.Proofs.Ytmhfhobaicklmaa.Ax
end

section
/- One by one: seqm's small functions. -/
namespace Go.Proofs.Ytmhfhobaicklmaa.Ax
open Go.RowKit
set_option linter.unusedVariables false
set_option linter.unusedSimpArgs false
def rins (i : Ins) : RR := .agg ((row i).map .d)
def rdPI : List A → Prg × Int
  | [.agg l, .c (.int _ i)] => (Prg.of l, i)
  | _ => default
def aIns (i : Ins) : A := .agg (row i)
def aVal (r : Bool) (n : Int) : A := .agg [.bool r, .int .i64 n]
def c_sAt : FT (Prg × Int) := ⟨45, fun x => [ap x.1, ai x.2], rdPI, fun _ => True, fun x => rins (atS x.1.ins x.2), false, fun x => by simp [ap, ai, rdPI]⟩
noncomputable def a_sAt : FnA := (fnA Try.prog Try.f45 2 []).getD ⟨0, .skip, [], []⟩
def s_sAt : Sp := spT []
theorem s_sAt_sound : s_sAt.sound Try.prog := spT_sound fun e he => by cases he
set_option maxRecDepth 100000 in
theorem t_sAt (p : Prg) (i : Int) : a_sAt.start s_sAt 400 [ap p, ai i] =
(VC.br (decide (i < (0 : Int)))
 (VC.ret (some (RR.agg [Rc.d (D.int IntKind.i64 (12 : Int)), Rc.d (D.int IntKind.i64 (0 : Int)), Rc.d (D.int IntKind.i64 (0 : Int)), Rc.d (D.bool false), Rc.d (D.int IntKind.i64 (0 : Int)), Rc.d (D.bool false), Rc.d (D.int IntKind.i64 (0 : Int)), Rc.d (D.str { data := #[] }), Rc.d (D.int IntKind.i64 (0 : Int))])))
 (VC.br (decide ((↑(List.length (rowsOn p.ins)) : Int) ≤ i))
  (VC.ret (some (RR.agg [Rc.d (D.int IntKind.i64 (12 : Int)), Rc.d (D.int IntKind.i64 (0 : Int)), Rc.d (D.int IntKind.i64 (0 : Int)), Rc.d (D.bool false), Rc.d (D.int IntKind.i64 (0 : Int)), Rc.d (D.bool false), Rc.d (D.int IntKind.i64 (0 : Int)), Rc.d (D.str { data := #[] }), Rc.d (D.int IntKind.i64 (0 : Int))])))
  (VC.need ((0 : Int) ≤ i ∧ i < (↑(List.length (rowsOn p.ins)) : Int) ∧ List.length (rowAt (rowsOn p.ins) (Int.toNat i)) = (9 : Nat))
  (VC.need (okSh [Kd.int IntKind.i64, Kd.int IntKind.i64, Kd.int IntKind.i64, Kd.bool, Kd.int IntKind.i64, Kd.bool, Kd.int IntKind.i64, Kd.str, Kd.int IntKind.i64] (rowAt (rowsOn p.ins) (Int.toNat i)))
  (VC.ret (some (RR.agg [Rc.d (D.int IntKind.i64 (asInt (List.getD (rowAt (rowsOn p.ins) (Int.toNat i)) (0 : Nat) D.nilp))), Rc.d (D.int IntKind.i64 (asInt (List.getD (rowAt (rowsOn p.ins) (Int.toNat i)) (1 : Nat) D.nilp))), Rc.d (D.int IntKind.i64 (asInt (List.getD (rowAt (rowsOn p.ins) (Int.toNat i)) (2 : Nat) D.nilp))), Rc.d (D.bool (asBool (List.getD (rowAt (rowsOn p.ins) (Int.toNat i)) (3 : Nat) D.nilp))), Rc.d (D.int IntKind.i64 (asInt (List.getD (rowAt (rowsOn p.ins) (Int.toNat i)) (4 : Nat) D.nilp))), Rc.d (D.bool (asBool (List.getD (rowAt (rowsOn p.ins) (Int.toNat i)) (5 : Nat) D.nilp))), Rc.d (D.int IntKind.i64 (asInt (List.getD (rowAt (rowsOn p.ins) (Int.toNat i)) (6 : Nat) D.nilp))), Rc.d (D.str (asStr (List.getD (rowAt (rowsOn p.ins) (Int.toNat i)) (7 : Nat) D.nilp))), Rc.d (D.int IntKind.i64 (asInt (List.getD (rowAt (rowsOn p.ins) (Int.toNat i)) (8 : Nat) D.nilp)))]))))))) := by kernel_rfl
theorem c_sAt_good : c_sAt.fe.Good Try.prog := by
  refine FT.good c_sAt ⟨Try.f45, by kernel_rfl, by decide +kernel, by kernel_rfl⟩ (fun ⟨p, i⟩ => by first | rfl | simp [c_sAt, rrRef, rnum, rby, rss, rnewI, rnewE, rstab, rplaces, ri, rb, rib, rins, Sta.fresh]) fun ⟨p, i⟩ hp => ?_
  refine acalls_le s_sAt_sound (fn := Try.f45) (a := a_sAt) (nargs := 2) (tbl := []) (by kernel_rfl) (by kernel_rfl) rfl (m := 400) ?_
  show VC.holds _ _ _ (a_sAt.start s_sAt 400 [ap p, ai i])
  rw [t_sAt]
  try simp only [asRows_sl, asInt_int, asBool_bool, asStr_str, listOf_rowsOn, List.drop_zero, Prg.eta, Sta.eta, rowsOn_length, getD_drop, Nat.reduceAdd, rd_int, rd_PMem_name, rd_PMem_secret, rd_PMem_n, rd_PLabel_name, rd_PLabel_at_, rd_Ins_kind, rd_Ins_op, rd_Ins_d, rd_Ins_aR, rd_Ins_aN, rd_Ins_bR, rd_Ins_bN, rd_Ins_name, rd_Ins_target, rd_Ent_pc, rd_Ent_val, rd_Ent_addr, rd_Ent_fro, rd_Ent_next, rd_Ent_done, rd_Ent_known, rd_Ent_fault, rd_Place_reg, rd_Place_n, rd_Place_secret, rd_Obs_kind, rd_Obs_at_, rd_Dir_kind, rd_Dir_n, Prg.of_cells, Sta.of_cells]
  try simp only [c_sAt] at hp
  repeat' first
    | refine br_not ?_
    | refine br_dec (fun _ => ?_) (fun _ => ?_)
    | refine br_beq (fun _ => ?_) (fun _ => ?_)
    | refine br_bne (fun _ => ?_) (fun _ => ?_)
    | refine br_holds (fun _ => ?_) (fun _ => ?_)
    | refine ⟨PreOk.mk ?_ rfl, ?_⟩
    | refine ⟨idx_ok _ _ _ rfl (by omega) (by omega), ?_⟩
    | refine ⟨okSh_ok _ _ _ (fun _ => rfl) (by omega) (by omega), ?_⟩
    | refine ⟨okSh_okD _ _ _ _ (fun _ => rfl) (by omega) (by omega), ?_⟩
    | refine ⟨aload_ok _ _ rfl (fun _ => rfl) (by omega) (by omega), ?_⟩
    | refine ⟨aload_okD _ _ _ rfl (fun _ => rfl) (by omega) (by omega), ?_⟩
    | refine ⟨astore_ok (by assumption) rfl (by omega) (by omega) (by decide), ?_⟩
    | refine ⟨app_ok (by assumption) rfl rfl (by simp only [List.length_cons, List.length_nil]; omega), ?_⟩
    | refine need_holds ?_ fun _ => ?_
    | refine all_holds fun y hy => ?_
    | refine ret_le ?_
  all_goals refine RR.le_of_eq ?_
  · show _ = rins (atS p.ins i)
    unfold atS; rw [if_pos (.inl ‹_›)]; rfl
  · show _ = rins (atS p.ins i)
    unfold atS; rw [if_pos (.inr ‹_›)]; rfl
  · show _ = rins (atS p.ins i)
    unfold atS; rw [if_neg (by omega)]; rfl
noncomputable def v_sAt : Prg × Int → Ins := fun x => atS x.1.ins x.2
noncomputable def sh_sAt : Ins → RR := fun i => rins i
theorem e_sAt (x : Prg × Int) : sh_sAt (v_sAt x) = c_sAt.ans x := rfl
theorem reg_out (s : Sta) {i : Int} (h : i < 0 ∨ 4 ≤ i) : s.reg i = 0 := by
  unfold Sta.reg
  rw [if_neg (by omega), if_neg (by omega), if_neg (by omega), if_neg (by omega)]
theorem maskS_0 (w : Int) : maskS w 0 = 0 := by unfold maskS; split <;> simp
def rdPSI : List A → Prg × Sta × Int
  | [.agg l, .agg s, .c (.int _ i)] => (Prg.of l, Sta.of s, i)
  | _ => default
def c_sReg : FT (Prg × Sta × Int) := ⟨66, fun x => [ap x.1, as_ x.2.1, ai x.2.2], rdPSI, fun _ => True, fun x => ri (maskS x.1.w (x.2.1.reg x.2.2)), false, fun x => by simp [ap, as_, ai, rdPSI]⟩
noncomputable def a_sReg : FnA := (fnA Try.prog Try.f66 3 []).getD ⟨0, .skip, [], []⟩
def s_sReg : Sp := spT [c_wMask.fe]
theorem s_sReg_sound : s_sReg.sound Try.prog := spT_sound fun e he => by
  simp only [List.mem_cons, List.not_mem_nil, or_false] at he
  rcases he with rfl
  · exact c_wMask_good
set_option maxRecDepth 100000 in
theorem t_sReg (p : Prg) (s : Sta) (i : Int) : a_sReg.start s_sReg 400 [ap p, as_ s, ai i] =
(VC.br (decide (i < (0 : Int)))
 (VC.ret (some (RR.c (Rc.d (D.int IntKind.i64 (0 : Int))))))
 (VC.br (decide ((4 : Int) ≤ i))
  (VC.ret (some (RR.c (Rc.d (D.int IntKind.i64 (0 : Int))))))
  (VC.br (decide (i = (0 : Int)))
   (VC.need (PreOk c_wMask (p.w, s.r0) [A.c (D.int IntKind.i64 p.w), A.c (D.int IntKind.i64 s.r0)])
   (VC.ret (some (RR.c (Rc.d (D.int IntKind.i64 (maskS p.w s.r0)))))))
   (VC.br (decide (i = (1 : Int)))
    (VC.need (PreOk c_wMask (p.w, s.r1) [A.c (D.int IntKind.i64 p.w), A.c (D.int IntKind.i64 s.r1)])
    (VC.ret (some (RR.c (Rc.d (D.int IntKind.i64 (maskS p.w s.r1)))))))
    (VC.br (decide (i = (2 : Int)))
     (VC.need (PreOk c_wMask (p.w, s.r2) [A.c (D.int IntKind.i64 p.w), A.c (D.int IntKind.i64 s.r2)])
     (VC.ret (some (RR.c (Rc.d (D.int IntKind.i64 (maskS p.w s.r2)))))))
     (VC.br (decide (i = (3 : Int)))
      (VC.need (PreOk c_wMask (p.w, s.r3) [A.c (D.int IntKind.i64 p.w), A.c (D.int IntKind.i64 s.r3)])
      (VC.ret (some (RR.c (Rc.d (D.int IntKind.i64 (maskS p.w s.r3)))))))
      VC.ff)))))) := by kernel_rfl
theorem c_sReg_good : c_sReg.fe.Good Try.prog := by
  refine FT.good c_sReg ⟨Try.f66, by kernel_rfl, by decide +kernel, by kernel_rfl⟩ (fun ⟨p, s, i⟩ => by first | rfl | simp [c_sReg, rrRef, rnum, rby, rss, rnewI, rnewE, rstab, rplaces, ri, rb, rib, rins, Sta.fresh]) fun ⟨p, s, i⟩ hp => ?_
  refine acalls_le s_sReg_sound (fn := Try.f66) (a := a_sReg) (nargs := 3) (tbl := []) (by kernel_rfl) (by kernel_rfl) rfl (m := 400) ?_
  show VC.holds _ _ _ (a_sReg.start s_sReg 400 [ap p, as_ s, ai i])
  rw [t_sReg]
  try simp only [asRows_sl, asInt_int, asBool_bool, asStr_str, listOf_rowsOn, List.drop_zero, Prg.eta, Sta.eta, rowsOn_length, getD_drop, Nat.reduceAdd, rd_int, rd_PMem_name, rd_PMem_secret, rd_PMem_n, rd_PLabel_name, rd_PLabel_at_, rd_Ins_kind, rd_Ins_op, rd_Ins_d, rd_Ins_aR, rd_Ins_aN, rd_Ins_bR, rd_Ins_bN, rd_Ins_name, rd_Ins_target, rd_Ent_pc, rd_Ent_val, rd_Ent_addr, rd_Ent_fro, rd_Ent_next, rd_Ent_done, rd_Ent_known, rd_Ent_fault, rd_Place_reg, rd_Place_n, rd_Place_secret, rd_Obs_kind, rd_Obs_at_, rd_Dir_kind, rd_Dir_n, Prg.of_cells, Sta.of_cells]
  try simp only [c_sReg] at hp
  repeat' first
    | refine br_not ?_
    | refine br_dec (fun _ => ?_) (fun _ => ?_)
    | refine br_beq (fun _ => ?_) (fun _ => ?_)
    | refine br_bne (fun _ => ?_) (fun _ => ?_)
    | refine br_holds (fun _ => ?_) (fun _ => ?_)
    | refine ⟨PreOk.mk ?_ rfl, ?_⟩
    | refine ⟨idx_ok _ _ _ rfl (by omega) (by omega), ?_⟩
    | refine ⟨okSh_ok _ _ _ (fun _ => rfl) (by omega) (by omega), ?_⟩
    | refine ⟨okSh_okD _ _ _ _ (fun _ => rfl) (by omega) (by omega), ?_⟩
    | refine ⟨aload_ok _ _ rfl (fun _ => rfl) (by omega) (by omega), ?_⟩
    | refine ⟨aload_okD _ _ _ rfl (fun _ => rfl) (by omega) (by omega), ?_⟩
    | refine ⟨astore_ok (by assumption) rfl (by omega) (by omega) (by decide), ?_⟩
    | refine ⟨app_ok (by assumption) rfl rfl (by simp only [List.length_cons, List.length_nil]; omega), ?_⟩
    | refine need_holds ?_ fun _ => ?_
    | refine all_holds fun y hy => ?_
    | refine ret_le ?_
  all_goals try exact trivial
  all_goals try (exfalso; omega)
  · exact RR.le_of_eq (by show _ = ri (maskS p.w (s.reg i)); rw [reg_out s (by omega), maskS_0]; rfl)
  · exact RR.le_of_eq (by show _ = ri (maskS p.w (s.reg i)); rw [reg_out s (by omega), maskS_0]; rfl)
  all_goals subst_vars
  all_goals exact RR.le_refl _
noncomputable def v_sReg : Prg × Sta × Int → Int := fun x => maskS x.1.w (x.2.1.reg x.2.2)
noncomputable def sh_sReg : Int → RR := fun i => ri i
theorem e_sReg (x : Prg × Sta × Int) : sh_sReg (v_sReg x) = c_sReg.ans x := rfl
def rdPSV : List A → Prg × Sta × Bool × Int
  | [.agg l, .agg s, .agg [.bool r, .int _ i]] => (Prg.of l, Sta.of s, r, i)
  | _ => default
def c_sVal : FT (Prg × Sta × Bool × Int) := ⟨65, fun x => [ap x.1, as_ x.2.1, aVal x.2.2.1 x.2.2.2], rdPSV, fun _ => True, fun x => ri (valS x.1.w x.2.1 x.2.2.1 x.2.2.2), false, fun x => by simp [ap, as_, aVal, rdPSV]⟩
noncomputable def a_sVal : FnA := (fnA Try.prog Try.f65 3 []).getD ⟨0, .skip, [], []⟩
noncomputable def s_sVal : Sp := spT [c_wMask.fe, c_sReg.gfe v_sReg sh_sReg e_sReg]
theorem s_sVal_sound : s_sVal.sound Try.prog := spT_sound fun e he => by
  simp only [List.mem_cons, List.not_mem_nil, or_false] at he
  rcases he with rfl | rfl
  · exact c_wMask_good
  · exact FT.gfe_good c_sReg_good
set_option maxRecDepth 100000 in
theorem t_sVal (p : Prg) (s : Sta) (r : Bool) (n : Int) : a_sVal.start s_sVal 400 [ap p, as_ s, aVal r n] =
(VC.br (r)
 (VC.need (PreOk c_sReg (Prg.of (Prg.cells p), Sta.of (Sta.cells s), n) [A.agg (Prg.cells p), A.agg (Sta.cells s), A.c (D.int IntKind.i64 n)])
 (VC.all (v_sReg (Prg.of (Prg.cells p), Sta.of (Sta.cells s), n)) fun (y4 : Int) =>
 (VC.ret (some (RR.c (Rc.d (D.int IntKind.i64 y4)))))))
 (VC.need (PreOk c_wMask (p.w, n) [A.c (D.int IntKind.i64 p.w), A.c (D.int IntKind.i64 n)])
 (VC.ret (some (RR.c (Rc.d (D.int IntKind.i64 (maskS p.w n)))))))) := by kernel_rfl
theorem c_sVal_good : c_sVal.fe.Good Try.prog := by
  refine FT.good c_sVal ⟨Try.f65, by kernel_rfl, by decide +kernel, by kernel_rfl⟩ (fun ⟨p, s, r, n⟩ => by first | rfl | simp [c_sVal, rrRef, rnum, rby, rss, rnewI, rnewE, rstab, rplaces, ri, rb, rib, rins, Sta.fresh]) fun ⟨p, s, r, n⟩ hp => ?_
  refine acalls_le s_sVal_sound (fn := Try.f65) (a := a_sVal) (nargs := 3) (tbl := []) (by kernel_rfl) (by kernel_rfl) rfl (m := 400) ?_
  show VC.holds _ _ _ (a_sVal.start s_sVal 400 [ap p, as_ s, aVal r n])
  rw [t_sVal]
  try simp only [asRows_sl, asInt_int, asBool_bool, asStr_str, listOf_rowsOn, List.drop_zero, Prg.eta, Sta.eta, rowsOn_length, getD_drop, Nat.reduceAdd, rd_int, rd_PMem_name, rd_PMem_secret, rd_PMem_n, rd_PLabel_name, rd_PLabel_at_, rd_Ins_kind, rd_Ins_op, rd_Ins_d, rd_Ins_aR, rd_Ins_aN, rd_Ins_bR, rd_Ins_bN, rd_Ins_name, rd_Ins_target, rd_Ent_pc, rd_Ent_val, rd_Ent_addr, rd_Ent_fro, rd_Ent_next, rd_Ent_done, rd_Ent_known, rd_Ent_fault, rd_Place_reg, rd_Place_n, rd_Place_secret, rd_Obs_kind, rd_Obs_at_, rd_Dir_kind, rd_Dir_n, Prg.of_cells, Sta.of_cells]
  try simp only [c_sVal] at hp
  repeat' first
    | refine br_not ?_
    | refine br_dec (fun _ => ?_) (fun _ => ?_)
    | refine br_beq (fun _ => ?_) (fun _ => ?_)
    | refine br_bne (fun _ => ?_) (fun _ => ?_)
    | refine br_holds (fun _ => ?_) (fun _ => ?_)
    | refine ⟨PreOk.mk ?_ rfl, ?_⟩
    | refine ⟨idx_ok _ _ _ rfl (by omega) (by omega), ?_⟩
    | refine ⟨okSh_ok _ _ _ (fun _ => rfl) (by omega) (by omega), ?_⟩
    | refine ⟨okSh_okD _ _ _ _ (fun _ => rfl) (by omega) (by omega), ?_⟩
    | refine ⟨aload_ok _ _ rfl (fun _ => rfl) (by omega) (by omega), ?_⟩
    | refine ⟨aload_okD _ _ _ rfl (fun _ => rfl) (by omega) (by omega), ?_⟩
    | refine ⟨astore_ok (by assumption) rfl (by omega) (by omega) (by decide), ?_⟩
    | refine ⟨app_ok (by assumption) rfl rfl (by simp only [List.length_cons, List.length_nil]; omega), ?_⟩
    | refine need_holds ?_ fun _ => ?_
    | refine all_holds fun y hy => ?_
    | refine ret_le ?_
  all_goals subst_vars
  all_goals try exact trivial
  all_goals try simp only [Prg.of_cells, Sta.of_cells]
  all_goals first | exact trivial | refine RR.le_of_eq ?_
  all_goals exact (show RR.c (Rc.d (D.int .i64 _)) = RR.c (Rc.d (D.int .i64 (valS p.w s _ n))) from by simp [valS, v_sReg])
noncomputable def v_sVal : Prg × Sta × Bool × Int → Int := fun x => valS x.1.w x.2.1 x.2.2.1 x.2.2.2
noncomputable def sh_sVal : Int → RR := fun i => ri i
theorem e_sVal (x : Prg × Sta × Bool × Int) : sh_sVal (v_sVal x) = c_sVal.ans x := rfl
def rdPIn3 : List A → Prg × Ins × Int × Int × Int
  | [.agg l, .agg s, .c (.int _ a), .c (.int _ b), .c (.int _ d)] => (Prg.of l, Row.of s, a, b, d)
  | _ => default
def c_sValue : FT (Prg × Ins × Int × Int × Int) := ⟨64, fun x => [ap x.1, aIns x.2.1, ai x.2.2.1, ai x.2.2.2.1, ai x.2.2.2.2], rdPIn3, fun _ => True, fun x => ri (valueS x.1.w x.2.1 x.2.2.1 x.2.2.2.1 x.2.2.2.2), false, fun x => by simp [ap, aIns, ai, rdPIn3, Row.of_row]⟩
noncomputable def a_sValue : FnA := (fnA Try.prog Try.f64 5 []).getD ⟨0, .skip, [], []⟩
def s_sValue : Sp := spT [c_wDo.fe]
theorem s_sValue_sound : s_sValue.sound Try.prog := spT_sound fun e he => by
  simp only [List.mem_cons, List.not_mem_nil, or_false] at he
  rcases he with rfl
  · exact c_wDo_good
set_option maxRecDepth 100000 in
theorem t_sValue (p : Prg) (i : Ins) (a b d : Int) : a_sValue.start s_sValue 400 [ap p, aIns i, ai a, ai b, ai d] =
(VC.br (i.kind == (4 : Int))
 (VC.br (a != (0 : Int))
  (VC.ret (some (RR.c (Rc.d (D.int IntKind.i64 b)))))
  (VC.ret (some (RR.c (Rc.d (D.int IntKind.i64 d))))))
 (VC.need (PreOk c_wDo (p.w, i.op, a, b) [A.c (D.int IntKind.i64 p.w), A.c (D.int IntKind.i64 i.op), A.c (D.int IntKind.i64 a), A.c (D.int IntKind.i64 b)])
 (VC.ret (some (RR.c (Rc.d (D.int IntKind.i64 (doS p.w i.op a b).fst))))))) := by kernel_rfl
theorem c_sValue_good : c_sValue.fe.Good Try.prog := by
  refine FT.good c_sValue ⟨Try.f64, by kernel_rfl, by decide +kernel, by kernel_rfl⟩ (fun ⟨p, i, a, b, d⟩ => by first | rfl | simp [c_sValue, rrRef, rnum, rby, rss, rnewI, rnewE, rstab, rplaces, ri, rb, rib, rins, Sta.fresh]) fun ⟨p, i, a, b, d⟩ hp => ?_
  refine acalls_le s_sValue_sound (fn := Try.f64) (a := a_sValue) (nargs := 5) (tbl := []) (by kernel_rfl) (by kernel_rfl) rfl (m := 400) ?_
  show VC.holds _ _ _ (a_sValue.start s_sValue 400 [ap p, aIns i, ai a, ai b, ai d])
  rw [t_sValue]
  try simp only [asRows_sl, asInt_int, asBool_bool, asStr_str, listOf_rowsOn, List.drop_zero, Prg.eta, Sta.eta, rowsOn_length, getD_drop, Nat.reduceAdd, rd_int, rd_PMem_name, rd_PMem_secret, rd_PMem_n, rd_PLabel_name, rd_PLabel_at_, rd_Ins_kind, rd_Ins_op, rd_Ins_d, rd_Ins_aR, rd_Ins_aN, rd_Ins_bR, rd_Ins_bN, rd_Ins_name, rd_Ins_target, rd_Ent_pc, rd_Ent_val, rd_Ent_addr, rd_Ent_fro, rd_Ent_next, rd_Ent_done, rd_Ent_known, rd_Ent_fault, rd_Place_reg, rd_Place_n, rd_Place_secret, rd_Obs_kind, rd_Obs_at_, rd_Dir_kind, rd_Dir_n, Prg.of_cells, Sta.of_cells]
  try simp only [c_sValue] at hp
  repeat' first
    | refine br_not ?_
    | refine br_dec (fun _ => ?_) (fun _ => ?_)
    | refine br_beq (fun _ => ?_) (fun _ => ?_)
    | refine br_bne (fun _ => ?_) (fun _ => ?_)
    | refine br_holds (fun _ => ?_) (fun _ => ?_)
    | refine ⟨PreOk.mk ?_ rfl, ?_⟩
    | refine ⟨idx_ok _ _ _ rfl (by omega) (by omega), ?_⟩
    | refine ⟨okSh_ok _ _ _ (fun _ => rfl) (by omega) (by omega), ?_⟩
    | refine ⟨okSh_okD _ _ _ _ (fun _ => rfl) (by omega) (by omega), ?_⟩
    | refine ⟨aload_ok _ _ rfl (fun _ => rfl) (by omega) (by omega), ?_⟩
    | refine ⟨aload_okD _ _ _ rfl (fun _ => rfl) (by omega) (by omega), ?_⟩
    | refine ⟨astore_ok (by assumption) rfl (by omega) (by omega) (by decide), ?_⟩
    | refine ⟨app_ok (by assumption) rfl rfl (by simp only [List.length_cons, List.length_nil]; omega), ?_⟩
    | refine need_holds ?_ fun _ => ?_
    | refine all_holds fun y hy => ?_
    | refine ret_le ?_
  all_goals try exact trivial
  all_goals refine RR.le_of_eq ?_
  all_goals simp_all [c_sValue, valueS, ri]
noncomputable def v_sValue : Prg × Ins × Int × Int × Int → Int := fun x => valueS x.1.w x.2.1 x.2.2.1 x.2.2.2.1 x.2.2.2.2
noncomputable def sh_sValue : Int → RR := fun i => ri i
theorem e_sValue (x : Prg × Ins × Int × Int × Int) : sh_sValue (v_sValue x) = c_sValue.ans x := rfl
def rdP2 : List A → Prg × Int × Int
  | [.agg l, .c (.int _ a), .c (.int _ b)] => (Prg.of l, a, b)
  | _ => default
def c_sAddr : FT (Prg × Int × Int) := ⟨99, fun x => [ap x.1, ai x.2.1, ai x.2.2], rdP2, fun x => Mems x.1.mems ∧ 0 ≤ x.2.1 ∧ x.2.1 < 65536 ∧ 0 ≤ x.2.2 ∧ x.2.2 < 65536, fun x => rib (maskS x.1.w (x.2.1 + x.2.2), decide (maskS x.1.w (x.2.1 + x.2.2) < cellsS x.1.mems)), false, fun x => by simp [ap, ai, rdP2]⟩
noncomputable def a_sAddr : FnA := (fnA Try.prog Try.f99 3 []).getD ⟨0, .skip, [], []⟩
noncomputable def v_aCells : Prg → Int := fun x => cellsS x.mems
noncomputable def sh_aCells : Int → RR := fun i => ri i
theorem e_aCells (x : Prg) : sh_aCells (v_aCells x) = c_aCells.ans x := rfl
noncomputable def s_sAddr : Sp := spT [c_wMask.fe, c_aCells.gfe v_aCells sh_aCells e_aCells]
theorem s_sAddr_sound : s_sAddr.sound Try.prog := spT_sound fun e he => by
  simp only [List.mem_cons, List.not_mem_nil, or_false] at he
  rcases he with rfl | rfl
  · exact c_wMask_good
  · exact FT.gfe_good c_aCells_good
set_option maxRecDepth 100000 in
theorem t_sAddr (p : Prg) (a b : Int) : a_sAddr.start s_sAddr 400 [ap p, ai a, ai b] =
(VC.need (PreOk c_wMask (p.w, IntKind.wrap IntKind.i64 (a + b)) [A.c (D.int IntKind.i64 p.w), A.c (D.int IntKind.i64 (IntKind.wrap IntKind.i64 (a + b)))])
(VC.need (PreOk c_aCells p [A.agg (Prg.cells p)])
(VC.all (v_aCells { w := p.w, window := p.window, fuel := p.fuel, r0 := p.r0, r1 := p.r1, r2 := p.r2, r3 := p.r3, mems := listOf PMem (rowsOn p.mems), labels := listOf PLabel (rowsOn p.labels), ins := listOf Ins (rowsOn p.ins) }) fun (y3 : Int) =>
(VC.ret (some (RR.tup [Sum.inl (Rc.d (D.int IntKind.i64 (maskS p.w (IntKind.wrap IntKind.i64 (a + b))))), Sum.inl (Rc.d (D.bool (decide (maskS p.w (IntKind.wrap IntKind.i64 (a + b)) < y3))))])))))) := by kernel_rfl
theorem c_sAddr_good : c_sAddr.fe.Good Try.prog := by
  refine FT.good c_sAddr ⟨Try.f99, by kernel_rfl, by decide +kernel, by kernel_rfl⟩ (fun ⟨p, a, b⟩ => by first | rfl | simp [c_sAddr, rrRef, rnum, rby, rss, rnewI, rnewE, rstab, rplaces, ri, rb, rib, rins, Sta.fresh]) fun ⟨p, a, b⟩ hp => ?_
  refine acalls_le s_sAddr_sound (fn := Try.f99) (a := a_sAddr) (nargs := 3) (tbl := []) (by kernel_rfl) (by kernel_rfl) rfl (m := 400) ?_
  show VC.holds _ _ _ (a_sAddr.start s_sAddr 400 [ap p, ai a, ai b])
  rw [t_sAddr]
  try simp only [asRows_sl, asInt_int, asBool_bool, asStr_str, listOf_rowsOn, List.drop_zero, Prg.eta, Sta.eta, rowsOn_length, getD_drop, Nat.reduceAdd, rd_int, rd_PMem_name, rd_PMem_secret, rd_PMem_n, rd_PLabel_name, rd_PLabel_at_, rd_Ins_kind, rd_Ins_op, rd_Ins_d, rd_Ins_aR, rd_Ins_aN, rd_Ins_bR, rd_Ins_bN, rd_Ins_name, rd_Ins_target, rd_Ent_pc, rd_Ent_val, rd_Ent_addr, rd_Ent_fro, rd_Ent_next, rd_Ent_done, rd_Ent_known, rd_Ent_fault, rd_Place_reg, rd_Place_n, rd_Place_secret, rd_Obs_kind, rd_Obs_at_, rd_Dir_kind, rd_Dir_n, Prg.of_cells, Sta.of_cells]
  try simp only [c_sAddr] at hp
  obtain ⟨hm, h1, h2, h3, h4⟩ := hp
  rw [wrap_small (a + b) (by omega) (by omega)]
  repeat' first
    | refine br_not ?_
    | refine br_dec (fun _ => ?_) (fun _ => ?_)
    | refine br_beq (fun _ => ?_) (fun _ => ?_)
    | refine br_bne (fun _ => ?_) (fun _ => ?_)
    | refine br_holds (fun _ => ?_) (fun _ => ?_)
    | refine ⟨PreOk.mk ?_ rfl, ?_⟩
    | refine ⟨idx_ok _ _ _ rfl (by omega) (by omega), ?_⟩
    | refine ⟨okSh_ok _ _ _ (fun _ => rfl) (by omega) (by omega), ?_⟩
    | refine ⟨okSh_okD _ _ _ _ (fun _ => rfl) (by omega) (by omega), ?_⟩
    | refine ⟨aload_ok _ _ rfl (fun _ => rfl) (by omega) (by omega), ?_⟩
    | refine ⟨aload_okD _ _ _ rfl (fun _ => rfl) (by omega) (by omega), ?_⟩
    | refine ⟨astore_ok (by assumption) rfl (by omega) (by omega) (by decide), ?_⟩
    | refine ⟨app_ok (by assumption) rfl rfl (by simp only [List.length_cons, List.length_nil]; omega), ?_⟩
    | refine need_holds ?_ fun _ => ?_
    | refine all_holds fun y hy => ?_
    | refine ret_le ?_
  all_goals subst_vars
  all_goals try exact trivial
  all_goals try simp only [Prg.of_cells, Sta.of_cells]
  all_goals first | exact hm | exact RR.le_of_eq rfl | trace_state
noncomputable def v_sAddr : Prg × Int × Int → Int × Bool := fun x => (maskS x.1.w (x.2.1 + x.2.2), decide (maskS x.1.w (x.2.1 + x.2.2) < cellsS x.1.mems))
noncomputable def sh_sAddr : Int × Bool → RR := fun i => rib i
theorem e_sAddr (x : Prg × Int × Int) : sh_sAddr (v_sAddr x) = c_sAddr.ans x := rfl
def c_sWay : FT (Prg × Ins × Int × Int × Int) := ⟨69, fun x => [ap x.1, aIns x.2.1, ai x.2.2.1, ai x.2.2.2.1, ai x.2.2.2.2], rdPIn3, fun x => -10 ≤ x.2.2.1 ∧ x.2.2.1 ≤ 1000000, fun x => ri (wayS x.1.w x.1.ins.length x.2.1 x.2.2.1 x.2.2.2.1 x.2.2.2.2), false, fun x => by simp [ap, aIns, ai, rdPIn3, Row.of_row]⟩
noncomputable def a_sWay : FnA := (fnA Try.prog Try.f69 5 []).getD ⟨0, .skip, [], []⟩
def s_sWay : Sp := spT [c_wDo.fe]
theorem s_sWay_sound : s_sWay.sound Try.prog := spT_sound fun e he => by
  simp only [List.mem_cons, List.not_mem_nil, or_false] at he
  rcases he with rfl
  · exact c_wDo_good
set_option maxRecDepth 100000 in
theorem t_sWay (p : Prg) (i : Ins) (pc a b : Int) : a_sWay.start s_sWay 400 [ap p, aIns i, ai pc, ai a, ai b] =
(VC.br (i.kind == (7 : Int))
 (VC.ret (some (RR.c (Rc.d (D.int IntKind.i64 (min a (↑(List.length (rowsOn p.ins)) : Int)))))))
 (VC.need (PreOk c_wDo (p.w, i.op, a, b) [A.c (D.int IntKind.i64 p.w), A.c (D.int IntKind.i64 i.op), A.c (D.int IntKind.i64 a), A.c (D.int IntKind.i64 b)])
 (VC.br ((doS p.w i.op a b).fst != (0 : Int))
  (VC.ret (some (RR.c (Rc.d (D.int IntKind.i64 i.target)))))
  (VC.ret (some (RR.c (Rc.d (D.int IntKind.i64 (IntKind.wrap IntKind.i64 (pc + (1 : Int))))))))))) := by kernel_rfl
theorem c_sWay_good : c_sWay.fe.Good Try.prog := by
  refine FT.good c_sWay ⟨Try.f69, by kernel_rfl, by decide +kernel, by kernel_rfl⟩ (fun ⟨p, i, pc, a, b⟩ => by first | rfl | simp [c_sWay, rrRef, rnum, rby, rss, rnewI, rnewE, rstab, rplaces, ri, rb, rib, rins, Sta.fresh]) fun ⟨p, i, pc, a, b⟩ hp => ?_
  refine acalls_le s_sWay_sound (fn := Try.f69) (a := a_sWay) (nargs := 5) (tbl := []) (by kernel_rfl) (by kernel_rfl) rfl (m := 400) ?_
  show VC.holds _ _ _ (a_sWay.start s_sWay 400 [ap p, aIns i, ai pc, ai a, ai b])
  rw [t_sWay]
  try simp only [asRows_sl, asInt_int, asBool_bool, asStr_str, listOf_rowsOn, List.drop_zero, Prg.eta, Sta.eta, rowsOn_length, getD_drop, Nat.reduceAdd, rd_int, rd_PMem_name, rd_PMem_secret, rd_PMem_n, rd_PLabel_name, rd_PLabel_at_, rd_Ins_kind, rd_Ins_op, rd_Ins_d, rd_Ins_aR, rd_Ins_aN, rd_Ins_bR, rd_Ins_bN, rd_Ins_name, rd_Ins_target, rd_Ent_pc, rd_Ent_val, rd_Ent_addr, rd_Ent_fro, rd_Ent_next, rd_Ent_done, rd_Ent_known, rd_Ent_fault, rd_Place_reg, rd_Place_n, rd_Place_secret, rd_Obs_kind, rd_Obs_at_, rd_Dir_kind, rd_Dir_n, Prg.of_cells, Sta.of_cells]
  try simp only [c_sWay] at hp
  obtain ⟨h1, h2⟩ := hp
  rw [wrap_small (pc + 1) (by omega) (by omega)]
  repeat' first
    | refine br_not ?_
    | refine br_dec (fun _ => ?_) (fun _ => ?_)
    | refine br_beq (fun _ => ?_) (fun _ => ?_)
    | refine br_bne (fun _ => ?_) (fun _ => ?_)
    | refine br_holds (fun _ => ?_) (fun _ => ?_)
    | refine ⟨PreOk.mk ?_ rfl, ?_⟩
    | refine ⟨idx_ok _ _ _ rfl (by omega) (by omega), ?_⟩
    | refine ⟨okSh_ok _ _ _ (fun _ => rfl) (by omega) (by omega), ?_⟩
    | refine ⟨okSh_okD _ _ _ _ (fun _ => rfl) (by omega) (by omega), ?_⟩
    | refine ⟨aload_ok _ _ rfl (fun _ => rfl) (by omega) (by omega), ?_⟩
    | refine ⟨aload_okD _ _ _ rfl (fun _ => rfl) (by omega) (by omega), ?_⟩
    | refine ⟨astore_ok (by assumption) rfl (by omega) (by omega) (by decide), ?_⟩
    | refine ⟨app_ok (by assumption) rfl rfl (by simp only [List.length_cons, List.length_nil]; omega), ?_⟩
    | refine need_holds ?_ fun _ => ?_
    | refine all_holds fun y hy => ?_
    | refine ret_le ?_
  all_goals try exact trivial
  all_goals refine RR.le_of_eq ?_
  all_goals simp_all [c_sWay, wayS, ri]
noncomputable def v_sWay : Prg × Ins × Int × Int × Int → Int := fun x => wayS x.1.w x.1.ins.length x.2.1 x.2.2.1 x.2.2.2.1 x.2.2.2.2
noncomputable def sh_sWay : Int → RR := fun i => ri i
theorem e_sWay (x : Prg × Ins × Int × Int × Int) : sh_sWay (v_sWay x) = c_sWay.ans x := rfl
end Go.Proofs.Ytmhfhobaicklmaa.Ax
end
