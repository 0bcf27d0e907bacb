/- Several texts in one, in their order. -/
import Derived.Test.YtclabjihjopclaaPart3
import Derived.Test.YtclabjihjopclaaAxTg
section
/- Layer 10: what a register holds under way. -/
namespace Go.Proofs.Ytclabjihjopclaa.Ax
open Go.RowKit
set_option linter.unusedVariables false
set_option linter.unusedSimpArgs false
def cutS (l : List Ent) (i : Int) : List Ent := l.take (min (max i 0) l.length).toNat
theorem cutS_len (l : List Ent) (i : Int) : (cutS l i).length ≤ l.length := by simp only [cutS, List.length_take]; omega
theorem okE (l : List Ent) : (List.all (rowsOn l) fun r => List.length r == 8) = true := rowsOn_all _ _ rfl
def aE (l : List Ent) : A := .c (.sl (rowsOn l))
def aEnt (e : Ent) : A := .agg (row e)
def rdEI : List A → List Ent × Int
  | [.c (.sl l), .c (.int _ i)] => (listOf Ent l, i)
  | _ => default
def rE (l : List Ent) : RR := .c (.d (.sl (rowsOn l)))
def c_cut : FT (List Ent × Int) := ⟨78, fun x => [aE x.1, ai x.2], rdEI, fun x => x.1.length ≤ 1000000000, fun x => rE (cutS x.1 x.2), true, fun x => by simp [aE, ai, rdEI]⟩
noncomputable def a_cut : FnA := (fnA Try.prog Try.f78 2 []).getD ⟨0, .skip, [], []⟩
def s_cut : Sp := spT [c_cloneE.fe]
theorem s_cut_sound : s_cut.sound Try.prog := spT_sound fun e he => by
  simp only [List.mem_cons, List.not_mem_nil, or_false] at he
  rcases he with rfl
  · exact c_cloneE_good
set_option maxRecDepth 100000 in
theorem t_cut (l : List Ent) (i : Int) : a_cut.start s_cut 400 [aE l, ai i] =
(VC.need ((List.all (rowsOn l) fun r ↦ List.length r == (8 : Nat)) = true ∧ (0 : Int) ≤ (0 : Int) ∧ (0 : Int) ≤ min (max i (0 : Int)) (↑(List.length (rowsOn l)) : Int) ∧ min (max i (0 : Int)) (↑(List.length (rowsOn l)) : Int) ≤ (↑(List.length (rowsOn l)) : Int))
(VC.need (PreOk c_cloneE (listOf Ent (List.drop (0 : Nat) (List.take (Int.toNat (min (max i (0 : Int)) (↑(List.length (rowsOn l)) : Int))) (rowsOn l))), ()) [A.c (D.sl (List.drop (0 : Nat) (List.take (Int.toNat (min (max i (0 : Int)) (↑(List.length (rowsOn l)) : Int))) (rowsOn l))))])
(VC.ret (some (RR.c (Rc.new (8 : Nat) (rowsOn (listOf Ent (List.drop (0 : Nat) (List.take (Int.toNat (min (max i (0 : Int)) (↑(List.length (rowsOn l)) : Int))) (rowsOn l))))))))))) := by kernel_rfl
theorem c_cut_good : c_cut.fe.Good Try.prog := by
  refine FT.good c_cut ⟨Try.f78, by kernel_rfl, by decide +kernel, by kernel_rfl⟩ (fun ⟨l, i⟩ => by first | rfl | simp [c_cut, rrRef, rrun, rstep, rins, rnum, rby, rss, rnewI, rnewE, rstab, rplaces, ri, rb, rib, rE, Sta.fresh]) fun ⟨l, i⟩ hp => ?_
  refine acalls_leD s_cut_sound (fn := Try.f78) (a := a_cut) (nargs := 2) (tbl := []) (by kernel_rfl) (by kernel_rfl) rfl (m := 400) ?_
  show VC.holds _ _ _ (a_cut.start s_cut 400 [aE l, ai i])
  rw [t_cut]
  try simp only [asRows_sl, asInt_int, asBool_bool, asStr_str, listOf_rowsOn, List.drop_zero, Prg.eta, Sta.eta, rowsOn_length, getD_drop, Nat.reduceAdd, rd_int, rd_PMem_name, rd_PMem_secret, rd_PMem_n, rd_PLabel_name, rd_PLabel_at_, rd_Ins_kind, rd_Ins_op, rd_Ins_d, rd_Ins_aR, rd_Ins_aN, rd_Ins_bR, rd_Ins_bN, rd_Ins_name, rd_Ins_target, rd_Ent_pc, rd_Ent_val, rd_Ent_addr, rd_Ent_fro, rd_Ent_next, rd_Ent_done, rd_Ent_known, rd_Ent_fault, rd_Place_reg, rd_Place_n, rd_Place_secret, rd_Obs_kind, rd_Obs_at_, rd_Dir_kind, rd_Dir_n, Prg.of_cells, Sta.of_cells]
  try simp only [c_cut] at hp
  have hc := cutS_len l i
  simp only [rowsOn_take, listOf_rowsOn]
  refine ⟨⟨okE l, by omega, by omega, by omega⟩, PreOk.mk (by dsimp only [c_cloneE]; simp only [List.length_take]; omega) rfl, ret_leD (RR.le_of_eq rfl)⟩
def rdIns : List A → Ins × Unit
  | [.agg r] => (Row.of r, ())
  | _ => default
def destS (x : Ins) : Int × Bool := if x.kind = 1 ∨ x.kind = 2 ∨ x.kind = 4 then (x.d, true) else (0, false)
def c_dest : FT (Ins × Unit) := ⟨32, fun x => [aIns x.1], rdIns, fun _ => True, fun x => rib (destS x.1), false, fun x => by simp [aIns, rdIns]; rfl⟩
noncomputable def a_dest : FnA := (fnA Try.prog Try.f32 1 []).getD ⟨0, .skip, [], []⟩
def s_dest : Sp := spT []
theorem s_dest_sound : s_dest.sound Try.prog := spT_sound fun e he => by cases he
set_option maxRecDepth 100000 in
theorem t_dest (x : Ins) : a_dest.start s_dest 400 [aIns x] =
(VC.br (x.kind == (1 : Int))
 (VC.ret (some (RR.tup [Sum.inl (Rc.d (D.int IntKind.i64 x.d)), Sum.inl (Rc.d (D.bool true))])))
 (VC.br (x.kind == (2 : Int))
  (VC.ret (some (RR.tup [Sum.inl (Rc.d (D.int IntKind.i64 x.d)), Sum.inl (Rc.d (D.bool true))])))
  (VC.br (x.kind == (4 : Int))
   (VC.ret (some (RR.tup [Sum.inl (Rc.d (D.int IntKind.i64 x.d)), Sum.inl (Rc.d (D.bool true))])))
   (VC.ret (some (RR.tup [Sum.inl (Rc.d (D.int IntKind.i64 (0 : Int))), Sum.inl (Rc.d (D.bool false))])))))) := by kernel_rfl
theorem c_dest_good : c_dest.fe.Good Try.prog := by
  refine FT.good c_dest ⟨Try.f32, by kernel_rfl, by decide +kernel, by kernel_rfl⟩ (fun ⟨x, u⟩ => by first | rfl | simp [c_dest, rrRef, rrun, rstep, rins, rnum, rby, rss, rnewI, rnewE, rstab, rplaces, ri, rb, rib, rE, Sta.fresh]) fun ⟨x, u⟩ hp => ?_
  refine acalls_le s_dest_sound (fn := Try.f32) (a := a_dest) (nargs := 1) (tbl := []) (by kernel_rfl) (by kernel_rfl) rfl (m := 400) ?_
  show VC.holds _ _ _ (a_dest.start s_dest 400 [aIns x])
  rw [t_dest]
  try simp only [asRows_sl, asInt_int, asBool_bool, asStr_str, listOf_rowsOn, List.drop_zero, Prg.eta, Sta.eta, rowsOn_length, getD_drop, Nat.reduceAdd, rd_int, rd_PMem_name, rd_PMem_secret, rd_PMem_n, rd_PLabel_name, rd_PLabel_at_, rd_Ins_kind, rd_Ins_op, rd_Ins_d, rd_Ins_aR, rd_Ins_aN, rd_Ins_bR, rd_Ins_bN, rd_Ins_name, rd_Ins_target, rd_Ent_pc, rd_Ent_val, rd_Ent_addr, rd_Ent_fro, rd_Ent_next, rd_Ent_done, rd_Ent_known, rd_Ent_fault, rd_Place_reg, rd_Place_n, rd_Place_secret, rd_Obs_kind, rd_Obs_at_, rd_Dir_kind, rd_Dir_n, Prg.of_cells, Sta.of_cells]
  try simp only [c_dest] at hp
  have e : c_dest.ans (x, u) = rib (destS x) := rfl
  rw [e]
  unfold destS
  refine br_beq (fun h => ?_) (fun h1 => br_beq (fun h => ?_) (fun h2 => br_beq (fun h => ?_) (fun h3 => ?_)))
  · rw [if_pos (.inl h)]; exact ret_le (RR.le_refl _)
  · rw [if_pos (.inr (.inl h))]; exact ret_le (RR.le_refl _)
  · rw [if_pos (.inr (.inr h))]; exact ret_le (RR.le_refl _)
  · rw [if_neg (by omega)]; exact ret_le (RR.le_refl _)
/-- Who waits for a fence. -/
def fenS (p : Prg) (e : Ent) : Bool := (atS p.ins e.pc).kind == 10
def rdEF : List A → Ent × Prg
  | [.agg r, .c (.rptr l)] => (Row.of r, Prg.of l)
  | _ => default
def c_fen1 : FT (Ent × Prg) := ⟨83, fun x => [aEnt x.1, .c (.rptr x.2.cells)], rdEF, fun _ => True, fun x => rb (fenS x.2 x.1), false, fun x => by simp [aEnt, rdEF]; rfl⟩
noncomputable def a_fen1 : FnA := (fnA Try.prog Try.f83 2 []).getD ⟨0, .skip, [], []⟩
noncomputable def s_fen1 : Sp := spT [c_sAt.gfe v_sAt sh_sAt e_sAt]
theorem s_fen1_sound : s_fen1.sound Try.prog := spT_sound fun e he => by
  simp only [List.mem_cons, List.not_mem_nil, or_false] at he
  rcases he with rfl
  · exact FT.gfe_good c_sAt_good
set_option maxRecDepth 100000 in
theorem t_fen1 (e : Ent) (p : Prg) : a_fen1.start s_fen1 400 [aEnt e, .c (.rptr p.cells)] =
(VC.need (okSh [Kd.int IntKind.i64, Kd.int IntKind.i64, Kd.int IntKind.i64, Kd.int IntKind.i64, Kd.int IntKind.i64, Kd.int IntKind.i64, Kd.int IntKind.i64, Kd.sl, Kd.sl, Kd.sl] (Prg.cells p))
(VC.need (PreOk c_sAt (Prg.of [D.int IntKind.i64 (asInt (D.int IntKind.i64 p.w)), D.int IntKind.i64 (asInt (D.int IntKind.i64 p.window)), D.int IntKind.i64 (asInt (D.int IntKind.i64 p.fuel)), D.int IntKind.i64 (asInt (D.int IntKind.i64 p.r0)), D.int IntKind.i64 (asInt (D.int IntKind.i64 p.r1)), D.int IntKind.i64 (asInt (D.int IntKind.i64 p.r2)), D.int IntKind.i64 (asInt (D.int IntKind.i64 p.r3)), D.sl (asRows (D.sl (rowsOn p.mems))), D.sl (asRows (D.sl (rowsOn p.labels))), D.sl (asRows (D.sl (rowsOn p.ins)))], e.pc) [A.agg [D.int IntKind.i64 (asInt (D.int IntKind.i64 p.w)), D.int IntKind.i64 (asInt (D.int IntKind.i64 p.window)), D.int IntKind.i64 (asInt (D.int IntKind.i64 p.fuel)), D.int IntKind.i64 (asInt (D.int IntKind.i64 p.r0)), D.int IntKind.i64 (asInt (D.int IntKind.i64 p.r1)), D.int IntKind.i64 (asInt (D.int IntKind.i64 p.r2)), D.int IntKind.i64 (asInt (D.int IntKind.i64 p.r3)), D.sl (asRows (D.sl (rowsOn p.mems))), D.sl (asRows (D.sl (rowsOn p.labels))), D.sl (asRows (D.sl (rowsOn p.ins)))], A.c (D.int IntKind.i64 e.pc)])
(VC.all (v_sAt (Prg.of [D.int IntKind.i64 (asInt (D.int IntKind.i64 p.w)), D.int IntKind.i64 (asInt (D.int IntKind.i64 p.window)), D.int IntKind.i64 (asInt (D.int IntKind.i64 p.fuel)), D.int IntKind.i64 (asInt (D.int IntKind.i64 p.r0)), D.int IntKind.i64 (asInt (D.int IntKind.i64 p.r1)), D.int IntKind.i64 (asInt (D.int IntKind.i64 p.r2)), D.int IntKind.i64 (asInt (D.int IntKind.i64 p.r3)), D.sl (asRows (D.sl (rowsOn p.mems))), D.sl (asRows (D.sl (rowsOn p.labels))), D.sl (asRows (D.sl (rowsOn p.ins)))], e.pc)) fun (y2 : Ins) =>
(VC.ret (some (RR.c (Rc.d (D.bool (y2.kind == (10 : Int)))))))))) := by kernel_rfl
theorem ofP (p : Prg) : Prg.of [.int .i64 p.w, .int .i64 p.window, .int .i64 p.fuel, .int .i64 p.r0, .int .i64 p.r1, .int .i64 p.r2, .int .i64 p.r3, .sl (rowsOn p.mems), .sl (rowsOn p.labels), .sl (rowsOn p.ins)] = p := Prg.of_cells p
theorem c_fen1_good : c_fen1.fe.Good Try.prog := by
  refine FT.good c_fen1 ⟨Try.f83, by kernel_rfl, by decide +kernel, by kernel_rfl⟩ (fun ⟨e, p⟩ => by first | rfl | simp [c_fen1, rrRef, rrun, rstep, rins, rnum, rby, rss, rnewI, rnewE, rstab, rplaces, ri, rb, rib, rE, Sta.fresh]) fun ⟨e, p⟩ hp => ?_
  refine acalls_le s_fen1_sound (fn := Try.f83) (a := a_fen1) (nargs := 2) (tbl := []) (by kernel_rfl) (by kernel_rfl) rfl (m := 400) ?_
  show VC.holds _ _ _ (a_fen1.start s_fen1 400 [aEnt e, .c (.rptr p.cells)])
  rw [t_fen1]
  try simp only [asRows_sl, asInt_int, asBool_bool, asStr_str, listOf_rowsOn, List.drop_zero, Prg.eta, Sta.eta, rowsOn_length, getD_drop, Nat.reduceAdd, rd_int, rd_PMem_name, rd_PMem_secret, rd_PMem_n, rd_PLabel_name, rd_PLabel_at_, rd_Ins_kind, rd_Ins_op, rd_Ins_d, rd_Ins_aR, rd_Ins_aN, rd_Ins_bR, rd_Ins_bN, rd_Ins_name, rd_Ins_target, rd_Ent_pc, rd_Ent_val, rd_Ent_addr, rd_Ent_fro, rd_Ent_next, rd_Ent_done, rd_Ent_known, rd_Ent_fault, rd_Place_reg, rd_Place_n, rd_Place_secret, rd_Obs_kind, rd_Obs_at_, rd_Dir_kind, rd_Dir_n, Prg.of_cells, Sta.of_cells]
  try simp only [c_fen1] at hp
  simp only [ofP]
  refine ⟨rfl, PreOk.mk trivial rfl, all_holds fun y hy => ret_le ?_⟩
  subst hy
  exact RR.le_refl _
theorem bkAll_bk : BksOK Try.prog bkAll := bkAll_ok
def aFn (p : Prg) : A := .c (.fn 83 [.rptr p.cells])
def rdLF : List A → List Ent × Prg
  | [.c (.sl l), .c (.fn _ [.rptr q])] => (listOf Ent l, Prg.of q)
  | _ => default
def ixF (p : Prg) (l : List Ent) : Nat → Nat → Int
  | 0, _ => -1
  | m + 1, k => if fenS p (rd l (k : Int)) = true then (k : Int) else ixF p l m (k + 1)
def ixS (p : Prg) (l : List Ent) : Int := ixF p l l.length 0
def c_ixf : FT (List Ent × Prg) := ⟨126, fun x => [aE x.1, aFn x.2], rdLF, fun x => x.1.length ≤ 1000000000, fun x => ri (ixS x.2 x.1), false, fun x => by simp [aE, aFn, rdLF]⟩
noncomputable def a_ixf : FnA := (fnA Try.prog Try.f126 2 [(2, [0, 1, 7, 8])]).getD ⟨0, .skip, [], []⟩
def s_ixf : Sp := spT [c_fen1.fe]
theorem s_ixf_sound : s_ixf.sound Try.prog := spT_sound fun e he => by
  simp only [List.mem_cons, List.not_mem_nil, or_false] at he
  rcases he with rfl
  · exact c_fen1_good
def F_ixf (l : List Ent) (p : Prg) (n i : Int) : St := ⟨mkS 19 [(0, vr (rowsOn l)), (1, .c (.d (.fn 83 [.rptr p.cells]))), (7, vi n), (8, vi i)], []⟩
set_option maxRecDepth 100000 in
theorem t_ixf (l : List Ent) (p : Prg) : a_ixf.start s_ixf 400 [aE l, aFn p] =
(FnA.at_ a_ixf 0 (F_ixf l p (↑(List.length (rowsOn l)) : Int) (0 : Int))) := by kernel_rfl
set_option maxRecDepth 100000 in
theorem t_ixf0 (l : List Ent) (p : Prg) (n i : Int) : a_ixf.round s_ixf 400 0 (F_ixf l p n i) =
(VC.br (decide (i < n))
 (VC.need ((0 : Int) ≤ i ∧ i < (↑(List.length (rowsOn l)) : Int) ∧ List.length (rowAt (rowsOn l) (Int.toNat i)) = (8 : Nat))
 (VC.need (okSh [Kd.int IntKind.i64, Kd.int IntKind.i64, Kd.int IntKind.i64, Kd.int IntKind.i64, Kd.int IntKind.i64, Kd.bool, Kd.bool, Kd.bool] (rowAt (rowsOn l) (Int.toNat i)))
 (VC.need (PreOk c_fen1 (Row.of [D.int IntKind.i64 (asInt (List.getD (rowAt (rowsOn l) (Int.toNat i)) (0 : Nat) D.nilp)), D.int IntKind.i64 (asInt (List.getD (rowAt (rowsOn l) (Int.toNat i)) (1 : Nat) D.nilp)), D.int IntKind.i64 (asInt (List.getD (rowAt (rowsOn l) (Int.toNat i)) (2 : Nat) D.nilp)), D.int IntKind.i64 (asInt (List.getD (rowAt (rowsOn l) (Int.toNat i)) (3 : Nat) D.nilp)), D.int IntKind.i64 (asInt (List.getD (rowAt (rowsOn l) (Int.toNat i)) (4 : Nat) D.nilp)), D.bool (asBool (List.getD (rowAt (rowsOn l) (Int.toNat i)) (5 : Nat) D.nilp)), D.bool (asBool (List.getD (rowAt (rowsOn l) (Int.toNat i)) (6 : Nat) D.nilp)), D.bool (asBool (List.getD (rowAt (rowsOn l) (Int.toNat i)) (7 : Nat) D.nilp))], Prg.of (Prg.cells p)) [A.agg [D.int IntKind.i64 (asInt (List.getD (rowAt (rowsOn l) (Int.toNat i)) (0 : Nat) D.nilp)), D.int IntKind.i64 (asInt (List.getD (rowAt (rowsOn l) (Int.toNat i)) (1 : Nat) D.nilp)), D.int IntKind.i64 (asInt (List.getD (rowAt (rowsOn l) (Int.toNat i)) (2 : Nat) D.nilp)), D.int IntKind.i64 (asInt (List.getD (rowAt (rowsOn l) (Int.toNat i)) (3 : Nat) D.nilp)), D.int IntKind.i64 (asInt (List.getD (rowAt (rowsOn l) (Int.toNat i)) (4 : Nat) D.nilp)), D.bool (asBool (List.getD (rowAt (rowsOn l) (Int.toNat i)) (5 : Nat) D.nilp)), D.bool (asBool (List.getD (rowAt (rowsOn l) (Int.toNat i)) (6 : Nat) D.nilp)), D.bool (asBool (List.getD (rowAt (rowsOn l) (Int.toNat i)) (7 : Nat) D.nilp))], A.c (D.rptr (Prg.cells p))])
 (VC.br (fenS (Prg.of (Prg.cells p)) (Row.of [D.int IntKind.i64 (asInt (List.getD (rowAt (rowsOn l) (Int.toNat i)) (0 : Nat) D.nilp)), D.int IntKind.i64 (asInt (List.getD (rowAt (rowsOn l) (Int.toNat i)) (1 : Nat) D.nilp)), D.int IntKind.i64 (asInt (List.getD (rowAt (rowsOn l) (Int.toNat i)) (2 : Nat) D.nilp)), D.int IntKind.i64 (asInt (List.getD (rowAt (rowsOn l) (Int.toNat i)) (3 : Nat) D.nilp)), D.int IntKind.i64 (asInt (List.getD (rowAt (rowsOn l) (Int.toNat i)) (4 : Nat) D.nilp)), D.bool (asBool (List.getD (rowAt (rowsOn l) (Int.toNat i)) (5 : Nat) D.nilp)), D.bool (asBool (List.getD (rowAt (rowsOn l) (Int.toNat i)) (6 : Nat) D.nilp)), D.bool (asBool (List.getD (rowAt (rowsOn l) (Int.toNat i)) (7 : Nat) D.nilp))]))
  (VC.ret (some (RR.c (Rc.d (D.int IntKind.i64 i)))))
  (FnA.at_ a_ixf 0 (F_ixf l p n (IntKind.wrap IntKind.i64 (i + (1 : Int)))))))))
 (VC.ret (some (RR.c (Rc.d (D.int IntKind.i64 (-1 : Int))))))) := by kernel_rfl
theorem l_ixf0 (l : List Ent) (p : Prg) (hl : l.length ≤ 1000000000) : ∀ i : Int, (fun (i : Int) => 0 ≤ i ∧ i ≤ l.length ∧ ixF p l (l.length - i.toNat) i.toNat = ixS p l) i → (a_ixf.at_ 0 ((fun (i : Int) => F_ixf l p l.length i) i)).holds s_ixf.cx a_ixf.rs (fun r => r.le (ri (ixS p l))) := by
  refine loop_rule (a := a_ixf) (j := 0) (m := 400) s_ixf_sound (fun (i : Int) => F_ixf l p l.length i) (fun (i : Int) => 0 ≤ i ∧ i ≤ l.length ∧ ixF p l (l.length - i.toNat) i.toNat = ixS p l) (fun (i : Int) => ((l.length : Int) - i).toNat) ?_
  rintro i h_inv ih
  try dsimp only at h_inv
  show VC.holds _ _ _ (a_ixf.round s_ixf 400 0 (F_ixf l p l.length i))
  rw [t_ixf0]
  try simp only [asRows_sl, asInt_int, asBool_bool, asStr_str, listOf_rowsOn, List.drop_zero, Prg.eta, Sta.eta, rowsOn_length, getD_drop, Nat.reduceAdd, rd_int, rd_PMem_name, rd_PMem_secret, rd_PMem_n, rd_PLabel_name, rd_PLabel_at_, rd_Ins_kind, rd_Ins_op, rd_Ins_d, rd_Ins_aR, rd_Ins_aN, rd_Ins_bR, rd_Ins_bN, rd_Ins_name, rd_Ins_target, rd_Ent_pc, rd_Ent_val, rd_Ent_addr, rd_Ent_fro, rd_Ent_next, rd_Ent_done, rd_Ent_known, rd_Ent_fault, rd_Place_reg, rd_Place_n, rd_Place_secret, rd_Obs_kind, rd_Obs_at_, rd_Dir_kind, rd_Dir_n, Prg.of_cells, Sta.of_cells]
  obtain ⟨h0, h1, h2⟩ := h_inv
  have w1 : IntKind.wrap .i64 (i + 1) = i + 1 := wrap_small _ (by omega) (by omega)
  simp only [w1]
  have ei : ((i.toNat : Nat) : Int) = i := by omega
  refine br_dec (fun hd => ?_) (fun hd => ?_)
  · obtain ⟨k, hk⟩ : ∃ k, l.length - i.toNat = k + 1 := ⟨l.length - i.toNat - 1, by omega⟩
    rw [hk] at h2
    have hs : ixF p l (k + 1) i.toNat = if fenS p (rd l i) = true then i else ixF p l k (i.toNat + 1) := by
      show (if fenS p (rd l ((i.toNat : Nat) : Int)) = true then ((i.toNat : Nat) : Int) else _) = _
      rw [ei]
    rw [hs] at h2
    refine ⟨⟨h0, hd, by rw [rowAt_on l i h0 hd]; rfl⟩, okSh_ok _ l i (fun _ => rfl) h0 hd, PreOk.mk trivial rfl, br_holds (fun h => ?_) (fun h => ?_)⟩
    · have h : fenS p (rd l i) = true := h
      rw [if_pos h] at h2
      refine ret_le ?_
      rw [← h2]; exact RR.le_refl _
    · have h : fenS p (rd l i) = false := h
      rw [if_neg (by rw [h]; simp)] at h2
      exact ih _ ⟨by omega, by omega, by rw [← h2, show (i + 1).toNat = i.toNat + 1 by omega, show l.length - (i.toNat + 1) = k by omega]⟩ (by omega)
  · rw [show l.length - i.toNat = 0 by omega] at h2
    refine ret_le ?_
    rw [← h2]; exact RR.le_refl _
theorem c_ixf_good : c_ixf.fe.Good Try.prog := by
  refine FT.good c_ixf ⟨Try.f126, by kernel_rfl, by decide +kernel, by kernel_rfl⟩ (fun ⟨l, p⟩ => by first | rfl | simp [c_ixf, rrRef, rrun, rstep, rins, rnum, rby, rss, rnewI, rnewE, rstab, rplaces, ri, rb, rib, rE, Sta.fresh]) fun ⟨l, p⟩ hp => ?_
  refine acalls_le s_ixf_sound (fn := Try.f126) (a := a_ixf) (nargs := 2) (tbl := [(2, [0, 1, 7, 8])]) (by kernel_rfl) (by kernel_rfl) rfl (m := 400) ?_
  show VC.holds _ _ _ (a_ixf.start s_ixf 400 [aE l, aFn p])
  rw [t_ixf]
  try simp only [asRows_sl, asInt_int, asBool_bool, asStr_str, listOf_rowsOn, List.drop_zero, Prg.eta, Sta.eta, rowsOn_length, getD_drop, Nat.reduceAdd, rd_int, rd_PMem_name, rd_PMem_secret, rd_PMem_n, rd_PLabel_name, rd_PLabel_at_, rd_Ins_kind, rd_Ins_op, rd_Ins_d, rd_Ins_aR, rd_Ins_aN, rd_Ins_bR, rd_Ins_bN, rd_Ins_name, rd_Ins_target, rd_Ent_pc, rd_Ent_val, rd_Ent_addr, rd_Ent_fro, rd_Ent_next, rd_Ent_done, rd_Ent_known, rd_Ent_fault, rd_Place_reg, rd_Place_n, rd_Place_secret, rd_Obs_kind, rd_Obs_at_, rd_Dir_kind, rd_Dir_n, Prg.of_cells, Sta.of_cells]
  try simp only [c_ixf] at hp
  exact l_ixf0 l p hp 0 ⟨by omega, by omega, rfl⟩
def c_cof : FT (List Ent × Prg) := ⟨82, fun x => [aE x.1, aFn x.2], rdLF, fun x => x.1.length ≤ 1000000000, fun x => rb (decide (0 ≤ ixS x.2 x.1)), false, fun x => by simp [aE, aFn, rdLF]⟩
noncomputable def a_cof : FnA := (fnA Try.prog Try.f82 2 []).getD ⟨0, .skip, [], []⟩
def s_cof : Sp := spT [c_ixf.fe]
theorem s_cof_sound : s_cof.sound Try.prog := spT_sound fun e he => by
  simp only [List.mem_cons, List.not_mem_nil, or_false] at he
  rcases he with rfl
  · exact c_ixf_good
set_option maxRecDepth 100000 in
theorem t_cof (l : List Ent) (p : Prg) : a_cof.start s_cof 400 [aE l, aFn p] =
(VC.need (PreOk c_ixf (l, Prg.of (Prg.cells p)) [A.c (D.sl (rowsOn l)), A.c (D.fn (83 : Nat) [D.rptr (Prg.cells p)])])
(VC.ret (some (RR.c (Rc.d (D.bool (decide ((0 : Int) ≤ ixS (Prg.of (Prg.cells p)) (listOf Ent (rowsOn l)))))))))) := by kernel_rfl
theorem c_cof_good : c_cof.fe.Good Try.prog := by
  refine FT.good c_cof ⟨Try.f82, by kernel_rfl, by decide +kernel, by kernel_rfl⟩ (fun ⟨l, p⟩ => by first | rfl | simp [c_cof, rrRef, rrun, rstep, rins, rnum, rby, rss, rnewI, rnewE, rstab, rplaces, ri, rb, rib, rE, Sta.fresh]) fun ⟨l, p⟩ hp => ?_
  refine acalls_le s_cof_sound (fn := Try.f82) (a := a_cof) (nargs := 2) (tbl := []) (by kernel_rfl) (by kernel_rfl) rfl (m := 400) ?_
  show VC.holds _ _ _ (a_cof.start s_cof 400 [aE l, aFn p])
  rw [t_cof]
  try simp only [asRows_sl, asInt_int, asBool_bool, asStr_str, listOf_rowsOn, List.drop_zero, Prg.eta, Sta.eta, rowsOn_length, getD_drop, Nat.reduceAdd, rd_int, rd_PMem_name, rd_PMem_secret, rd_PMem_n, rd_PLabel_name, rd_PLabel_at_, rd_Ins_kind, rd_Ins_op, rd_Ins_d, rd_Ins_aR, rd_Ins_aN, rd_Ins_bR, rd_Ins_bN, rd_Ins_name, rd_Ins_target, rd_Ent_pc, rd_Ent_val, rd_Ent_addr, rd_Ent_fro, rd_Ent_next, rd_Ent_done, rd_Ent_known, rd_Ent_fault, rd_Place_reg, rd_Place_n, rd_Place_secret, rd_Obs_kind, rd_Obs_at_, rd_Dir_kind, rd_Dir_n, Prg.of_cells, Sta.of_cells]
  try simp only [c_cof] at hp
  exact ⟨PreOk.mk hp rfl, ret_le (RR.le_refl _)⟩
def rdPEI : List A → Prg × List Ent × Int
  | [.agg q, .c (.sl l), .c (.int _ i)] => (Prg.of q, listOf Ent l, i)
  | _ => default
def c_blk : FT (Prg × List Ent × Int) := ⟨31, fun x => [ap x.1, aE x.2.1, ai x.2.2], rdPEI, fun x => x.2.1.length ≤ 1000000000, fun x => rb (decide (0 ≤ ixS x.1 (cutS x.2.1 x.2.2))), false, fun x => by simp [ap, aE, ai, rdPEI]⟩
noncomputable def a_blk : FnA := (fnA Try.prog Try.f31 3 []).getD ⟨0, .skip, [], []⟩
def s_blk : Sp := spT [c_cut.fe, c_cof.fe]
theorem s_blk_sound : s_blk.sound Try.prog := spT_sound fun e he => by
  simp only [List.mem_cons, List.not_mem_nil, or_false] at he
  rcases he with rfl | rfl
  · exact c_cut_good
  · exact c_cof_good
set_option maxRecDepth 100000 in
theorem t_blk (p : Prg) (l : List Ent) (i : Int) : a_blk.start s_blk 400 [ap p, aE l, ai i] =
(VC.need (PreOk c_cut (l, i) [A.c (D.sl (rowsOn l)), A.c (D.int IntKind.i64 i)])
(VC.need (PreOk c_cof (cutS l i, Prg.of (Prg.cells p)) [A.c (D.sl (rowsOn (cutS (listOf Ent (rowsOn l)) i))), A.c (D.fn (83 : Nat) [D.rptr (Prg.cells p)])])
(VC.ret (some (RR.c (Rc.d (D.bool (decide ((0 : Int) ≤ ixS (Prg.of (Prg.cells p)) (listOf Ent (rowsOn (cutS (listOf Ent (rowsOn l)) i)))))))))))) := by kernel_rfl
theorem c_blk_good : c_blk.fe.Good Try.prog := by
  refine FT.good c_blk ⟨Try.f31, by kernel_rfl, by decide +kernel, by kernel_rfl⟩ (fun ⟨p, l, i⟩ => by first | rfl | simp [c_blk, rrRef, rrun, rstep, rins, rnum, rby, rss, rnewI, rnewE, rstab, rplaces, ri, rb, rib, rE, Sta.fresh]) fun ⟨p, l, i⟩ hp => ?_
  refine acalls_le s_blk_sound (fn := Try.f31) (a := a_blk) (nargs := 3) (tbl := []) (by kernel_rfl) (by kernel_rfl) rfl (m := 400) ?_
  show VC.holds _ _ _ (a_blk.start s_blk 400 [ap p, aE l, ai i])
  rw [t_blk]
  try simp only [asRows_sl, asInt_int, asBool_bool, asStr_str, listOf_rowsOn, List.drop_zero, Prg.eta, Sta.eta, rowsOn_length, getD_drop, Nat.reduceAdd, rd_int, rd_PMem_name, rd_PMem_secret, rd_PMem_n, rd_PLabel_name, rd_PLabel_at_, rd_Ins_kind, rd_Ins_op, rd_Ins_d, rd_Ins_aR, rd_Ins_aN, rd_Ins_bR, rd_Ins_bN, rd_Ins_name, rd_Ins_target, rd_Ent_pc, rd_Ent_val, rd_Ent_addr, rd_Ent_fro, rd_Ent_next, rd_Ent_done, rd_Ent_known, rd_Ent_fault, rd_Place_reg, rd_Place_n, rd_Place_secret, rd_Obs_kind, rd_Obs_at_, rd_Dir_kind, rd_Dir_n, Prg.of_cells, Sta.of_cells]
  try simp only [c_blk] at hp
  have hc := cutS_len l i
  exact ⟨PreOk.mk hp rfl, PreOk.mk (by dsimp only [c_cof] at hp ⊢; omega) rfl, ret_le (RR.le_refl _)⟩
/-- What a register holds, from the last ahead to the first. -/
def regK (p : Prg) (g : Regs) (r : Int) (l : List Ent) : Nat → Int × Bool
  | 0 => (g.get r, true)
  | k + 1 => if (destS (atS p.ins (rd l (k : Int)).pc)).2 = true ∧ (destS (atS p.ins (rd l (k : Int)).pc)).1 = r then (if (rd l (k : Int)).done = true then ((rd l (k : Int)).val, true) else (0, false)) else regK p g r l k
def regS (p : Prg) (g : Regs) (l : List Ent) (i r : Int) : Int × Bool := if r < 0 ∨ 4 ≤ r then (0, false) else regK p g r (cutS l i) (cutS l i).length
def rdReg : List A → Prg × Regs × List Ent × Int × Int
  | [.agg q, .agg [.int _ a, .int _ b, .int _ c, .int _ d], .c (.sl l), .c (.int _ i), .c (.int _ r)] => (Prg.of q, ⟨a, b, c, d⟩, listOf Ent l, i, r)
  | _ => default
def c_reg : FT (Prg × Regs × List Ent × Int × Int) := ⟨28, fun x => [ap x.1, aRegs x.2.1, aE x.2.2.1, ai x.2.2.2.1, ai x.2.2.2.2], rdReg, fun x => x.2.2.1.length ≤ 1000000000, fun x => rib (regS x.1 x.2.1 x.2.2.1 x.2.2.2.1 x.2.2.2.2), false, fun x => by simp [ap, aRegs, aE, ai, rdReg]⟩
def rdE0 : List A → List Ent × Unit
  | [.c (.sl l)] => (listOf Ent l, ())
  | _ => default
def c_bkE : FT (List Ent × Unit) := ⟨80, fun x => [aE x.1], rdE0, fun x => True, fun x => .c (.d (.fn 123 [.rptr [.sl (rowsOn x.1)]])), true, fun x => by simp [aE, rdE0]⟩
noncomputable def a_bkE : FnA := (fnA Try.prog Try.f80 1 []).getD ⟨0, .skip, [], []⟩
def s_bkE : Sp := spT []
theorem s_bkE_sound : s_bkE.sound Try.prog := spT_sound fun e he => by cases he
set_option maxRecDepth 100000 in
theorem t_bkE (l : List Ent) : a_bkE.start s_bkE 400 [aE l] =
(VC.ret (some (RR.c (Rc.d (D.fn (123 : Nat) [D.rptr [D.sl (rowsOn l)]]))))) := by kernel_rfl
theorem c_bkE_good : c_bkE.fe.Good Try.prog := by
  refine FT.good c_bkE ⟨Try.f80, by kernel_rfl, by decide +kernel, by kernel_rfl⟩ (fun ⟨l, u⟩ => by first | rfl | simp [c_bkE, rrRef, rrun, rstep, rins, rnum, rby, rss, rnewI, rnewE, rstab, rplaces, ri, rb, rib, rE, Sta.fresh]) fun ⟨l, u⟩ hp => ?_
  refine acalls_le s_bkE_sound (fn := Try.f80) (a := a_bkE) (nargs := 1) (tbl := []) (by kernel_rfl) (by kernel_rfl) rfl (m := 400) ?_
  show VC.holds _ _ _ (a_bkE.start s_bkE 400 [aE l])
  rw [t_bkE]
  try simp only [asRows_sl, asInt_int, asBool_bool, asStr_str, listOf_rowsOn, List.drop_zero, Prg.eta, Sta.eta, rowsOn_length, getD_drop, Nat.reduceAdd, rd_int, rd_PMem_name, rd_PMem_secret, rd_PMem_n, rd_PLabel_name, rd_PLabel_at_, rd_Ins_kind, rd_Ins_op, rd_Ins_d, rd_Ins_aR, rd_Ins_aN, rd_Ins_bR, rd_Ins_bN, rd_Ins_name, rd_Ins_target, rd_Ent_pc, rd_Ent_val, rd_Ent_addr, rd_Ent_fro, rd_Ent_next, rd_Ent_done, rd_Ent_known, rd_Ent_fault, rd_Place_reg, rd_Place_n, rd_Place_secret, rd_Obs_kind, rd_Obs_at_, rd_Dir_kind, rd_Dir_n, Prg.of_cells, Sta.of_cells]
  try simp only [c_bkE] at hp
  repeat' first
    | refine br_not ?_
    | refine br_dec (fun _ => ?_) (fun _ => ?_)
    | refine br_beq (fun _ => ?_) (fun _ => ?_)
    | refine br_bne (fun _ => ?_) (fun _ => ?_)
    | refine br_holds (fun _ => ?_) (fun _ => ?_)
    | refine ⟨PreOk.mk ?_ rfl, ?_⟩
    | refine ⟨idx_ok _ _ _ rfl (by omega) (by omega), ?_⟩
    | refine ⟨okSh_ok _ _ _ (fun _ => rfl) (by omega) (by omega), ?_⟩
    | refine ⟨okSh_okD _ _ _ _ (fun _ => rfl) (by omega) (by omega), ?_⟩
    | refine ⟨aload_ok _ _ rfl (fun _ => rfl) (by omega) (by omega), ?_⟩
    | refine ⟨aload_okD _ _ _ rfl (fun _ => rfl) (by omega) (by omega), ?_⟩
    | refine ⟨astore_ok (by assumption) rfl (by omega) (by omega) (by decide), ?_⟩
    | refine ⟨app_ok (by assumption) rfl rfl (by simp only [List.length_cons, List.length_nil]; omega), ?_⟩
    | refine need_holds ?_ fun _ => ?_
    | refine all_holds fun y hy => ?_
    | refine ret_le ?_
  exact RR.le_refl _
noncomputable def v_dest : Ins × Unit → Int × Bool := fun x => destS x.1
noncomputable def sh_dest : Int × Bool → RR := fun y => rib y
theorem e_dest (x : Ins × Unit) : sh_dest (v_dest x) = c_dest.ans x := rfl
noncomputable def a_reg : FnA := (fnAT Try.prog [832] Try.f28 5 []).getD ⟨0, .skip, [], []⟩
noncomputable def s_reg : Sp := spT [c_cut.fe, c_dest.gfe v_dest sh_dest e_dest, c_sAt.gfe v_sAt sh_sAt e_sAt, c_bkE.fe] bkAll
theorem s_reg_sound : s_reg.sound Try.prog := spT_sound (hbk := bkAll_bk) fun e he => by
  simp only [List.mem_cons, List.not_mem_nil, or_false] at he
  rcases he with rfl | rfl | rfl | rfl
  · exact c_cut_good
  · exact FT.gfe_good c_dest_good
  · exact FT.gfe_good c_sAt_good
  · exact c_bkE_good
def B_reg (p : Prg) (g : Regs) (r : Int) : St := ⟨[], [(832, ⟨0, false, .dead⟩), (320, bx p.cells), (384, bx [.int .i64 g.r0, .int .i64 g.r1, .int .i64 g.r2, .int .i64 g.r3]), (576, bx [.int .i64 r]), (640, bx [.int .i64 0]), (704, bx [.bool false])]⟩
def F_reg (p : Prg) (g : Regs) (l : List (List D)) (i r : Int) (b c : Bool) (C Z : List (List D)) : St := ⟨mkS 50 [(0, .agg [.d (.int .i64 p.w), .d (.int .i64 p.window), .d (.int .i64 p.fuel), .d (.int .i64 p.r0), .d (.int .i64 p.r1), .d (.int .i64 p.r2), .d (.int .i64 p.r3), .d (.sl (rowsOn p.mems)), .d (.sl (rowsOn p.labels)), .d (.sl (rowsOn p.ins))]), (1, .agg [.d (.int .i64 g.r0), .d (.int .i64 g.r1), .d (.int .i64 g.r2), .d (.int .i64 g.r3)]), (2, vr l), (3, vi i), (4, vi r), (5, vp 320), (6, vp 384), (9, vp 576), (10, vp 640), (11, vp 704), (16, vi r), (17, .c (.d (.bool b))), (18, .c (.d (.bool false))), (19, vi r), (20, .c (.d (.bool c))), (21, .c (.d (.bool false))), (22, vr l), (23, vi i), (24, vr C), (25, .c (.d (.fn 123 [.rptr [.sl Z]])))], [(832, ⟨0, false, .dead⟩), (320, bx p.cells), (384, bx [.int .i64 g.r0, .int .i64 g.r1, .int .i64 g.r2, .int .i64 g.r3]), (576, bx [.int .i64 r]), (640, bx [.int .i64 0]), (704, bx [.bool false])]⟩
set_option maxRecDepth 100000 in
theorem t_reg (p : Prg) (g : Regs) (l : List Ent) (i r : Int) : a_reg.start s_reg 400 [ap p, aRegs g, aE l, ai i, ai r] =
(VC.br (decide (r < (0 : Int)))
 (VC.ret (some (RR.tup [Sum.inl (Rc.d (D.int IntKind.i64 (0 : Int))), Sum.inl (Rc.d (D.bool false))])))
 (VC.br (decide ((4 : Int) ≤ r))
  (VC.ret (some (RR.tup [Sum.inl (Rc.d (D.int IntKind.i64 (0 : Int))), Sum.inl (Rc.d (D.bool false))])))
  (VC.need (PreOk c_cut (l, i) [A.c (D.sl (rowsOn l)), A.c (D.int IntKind.i64 i)])
  (VC.need (PreOk c_bkE (cutS l i, ()) [A.c (D.sl (rowsOn (cutS (listOf Ent (rowsOn l)) i)))])
  (VC.need (okBack (some (8 : Nat)) (rowsOn (listOf Ent (rowsOn (cutS (listOf Ent (rowsOn l)) i)))) = true)
  (FnA.bk a_reg 0 ((some (8 : Nat), [Kd.int IntKind.i64, Kd.int IntKind.i64, Kd.int IntKind.i64, Kd.int IntKind.i64, Kd.int IntKind.i64, Kd.bool, Kd.bool, Kd.bool])) (St.blk (B_reg p g r)) (rowsOn (listOf Ent (rowsOn (cutS (listOf Ent (rowsOn l)) i)))) (List.length (rowsOn (listOf Ent (rowsOn (cutS (listOf Ent (rowsOn l)) i))))) (F_reg p g (rowsOn l) i r (decide (r < (0 : Int))) (decide ((4 : Int) ≤ r)) (rowsOn (cutS (listOf Ent (rowsOn l)) i)) (rowsOn (listOf Ent (rowsOn (cutS (listOf Ent (rowsOn l)) i))))))))))) := by kernel_rfl
set_option maxRecDepth 100000 in
theorem t_reg0 (p : Prg) (g : Regs) (l : List (List D)) (i r : Int) (b c : Bool) (C Z : List (List D)) (L : List Ent) : a_reg.bkround s_reg 400 0 (some 8, kdE) (St.blk (B_reg p g r)) (rowsOn L) 0 (F_reg p g l i r b c C Z) =
(VC.br (decide (r = (0 : Int)))
 (VC.ret (some (RR.tup [Sum.inl (Rc.d (D.int IntKind.i64 g.r0)), Sum.inl (Rc.d (D.bool true))])))
 (VC.br (decide (r = (1 : Int)))
  (VC.ret (some (RR.tup [Sum.inl (Rc.d (D.int IntKind.i64 g.r1)), Sum.inl (Rc.d (D.bool true))])))
  (VC.br (decide (r = (2 : Int)))
   (VC.ret (some (RR.tup [Sum.inl (Rc.d (D.int IntKind.i64 g.r2)), Sum.inl (Rc.d (D.bool true))])))
   (VC.br (decide (r = (3 : Int)))
    (VC.ret (some (RR.tup [Sum.inl (Rc.d (D.int IntKind.i64 g.r3)), Sum.inl (Rc.d (D.bool true))])))
    VC.ff)))) := by kernel_rfl
set_option maxRecDepth 100000 in
theorem t_regS (p : Prg) (g : Regs) (l : List (List D)) (i r : Int) (b c : Bool) (C Z : List (List D)) (L : List Ent) (k : Nat) : a_reg.bkround s_reg 400 0 (some 8, kdE) (St.blk (B_reg p g r)) (rowsOn L) (Nat.succ k) (F_reg p g l i r b c C Z) =
(VC.need (k < List.length (rowsOn L) ∧ okSh [Kd.int IntKind.i64, Kd.int IntKind.i64, Kd.int IntKind.i64, Kd.int IntKind.i64, Kd.int IntKind.i64, Kd.bool, Kd.bool, Kd.bool] (rowAt (rowsOn L) k))
(VC.need (PreOk c_sAt (Prg.of (Prg.cells p), asInt (List.getD (rowAt (rowsOn L) k) (0 : Nat) D.nilp)) [A.agg (Prg.cells p), A.c (D.int IntKind.i64 (asInt (List.getD (rowAt (rowsOn L) k) (0 : Nat) D.nilp)))])
(VC.all (v_sAt (Prg.of (Prg.cells p), asInt (List.getD (rowAt (rowsOn L) k) (0 : Nat) D.nilp))) fun (y11 : Ins) =>
(VC.need (PreOk c_dest (Row.of [D.int IntKind.i64 y11.kind, D.int IntKind.i64 y11.op, D.int IntKind.i64 y11.d, D.bool y11.aR, D.int IntKind.i64 y11.aN, D.bool y11.bR, D.int IntKind.i64 y11.bN, D.str y11.name, D.int IntKind.i64 y11.target], ()) [A.agg [D.int IntKind.i64 y11.kind, D.int IntKind.i64 y11.op, D.int IntKind.i64 y11.d, D.bool y11.aR, D.int IntKind.i64 y11.aN, D.bool y11.bR, D.int IntKind.i64 y11.bN, D.str y11.name, D.int IntKind.i64 y11.target]])
(VC.all (v_dest (Row.of [D.int IntKind.i64 y11.kind, D.int IntKind.i64 y11.op, D.int IntKind.i64 y11.d, D.bool y11.aR, D.int IntKind.i64 y11.aN, D.bool y11.bR, D.int IntKind.i64 y11.bN, D.str y11.name, D.int IntKind.i64 y11.target], ())) fun (y12 : Int × Bool) =>
(VC.br (y12.snd)
 (VC.br (y12.fst == r)
  (VC.br (!asBool (List.getD (rowAt (rowsOn L) k) (5 : Nat) D.nilp))
   (VC.ret (some (RR.tup [Sum.inl (Rc.d (D.int IntKind.i64 (0 : Int))), Sum.inl (Rc.d (D.bool false))])))
   (VC.ret (some (RR.tup [Sum.inl (Rc.d (D.int IntKind.i64 (asInt (List.getD (rowAt (rowsOn L) k) (1 : Nat) D.nilp)))), Sum.inl (Rc.d (D.bool true))]))))
  (FnA.bk a_reg 0 ((some (8 : Nat), [Kd.int IntKind.i64, Kd.int IntKind.i64, Kd.int IntKind.i64, Kd.int IntKind.i64, Kd.int IntKind.i64, Kd.bool, Kd.bool, Kd.bool])) (St.blk (B_reg p g r)) (rowsOn L) (k) (F_reg p g l i r b c C Z)))
 (FnA.bk a_reg 0 ((some (8 : Nat), [Kd.int IntKind.i64, Kd.int IntKind.i64, Kd.int IntKind.i64, Kd.int IntKind.i64, Kd.int IntKind.i64, Kd.bool, Kd.bool, Kd.bool])) (St.blk (B_reg p g r)) (rowsOn L) (k) (F_reg p g l i r b c C Z)))))))) := by kernel_rfl
theorem l_reg (p : Prg) (g : Regs) (l : List (List D)) (i r : Int) (b c : Bool) (C Z : List (List D)) (L : List Ent) (h0 : 0 ≤ r) (h4 : r < 4) : ∀ k : Nat, k ≤ L.length →
    (FnA.bk a_reg 0 (some 8, kdE) (St.blk (B_reg p g r)) (rowsOn L) k (F_reg p g l i r b c C Z)).holds s_reg.cx a_reg.rs fun x => x.le (rib (regK p g r L k)) := by
  intro k
  induction k with
  | zero =>
    intro _
    refine bk_of_round s_reg_sound (m := 400) ?_
    rw [t_reg0]
    unfold regK Regs.get
    refine br_dec (fun e => ?_) (fun e0 => br_dec (fun e => ?_) (fun e1 => br_dec (fun e => ?_) (fun e2 => br_dec (fun e => ?_) (fun e3 => by omega))))
    · rw [if_pos e]; exact ret_le (RR.le_refl _)
    · rw [if_neg e0, if_pos e]; exact ret_le (RR.le_refl _)
    · rw [if_neg e0, if_neg e1, if_pos e]; exact ret_le (RR.le_refl _)
    · rw [if_neg e0, if_neg e1, if_neg e2]; exact ret_le (RR.le_refl _)
  | succ k ih =>
    intro hk
    have ih := ih (by omega)
    refine bk_of_round s_reg_sound (m := 400) ?_
    rw [show k + 1 = Nat.succ k from rfl, t_regS]
    have e0 : asInt (List.getD (rowAt (rowsOn L) k) 0 .nilp) = (rd L (k : Int)).pc := rd_Ent_pc L (k : Int)
    have e1 : asInt (List.getD (rowAt (rowsOn L) k) 1 .nilp) = (rd L (k : Int)).val := rd_Ent_val L (k : Int)
    have e5 : asBool (List.getD (rowAt (rowsOn L) k) 5 .nilp) = (rd L (k : Int)).done := rd_Ent_done L (k : Int)
    rw [e0, e1, e5]
    unfold regK
    simp only [Prg.of_cells]
    refine ⟨⟨by rw [rowsOn_length]; omega, okSh_ok _ L (k : Int) (fun _ => rfl) (by omega) (by omega)⟩, PreOk.mk trivial rfl, all_holds fun y hy => ⟨PreOk.mk trivial rfl, all_holds fun z hz => ?_⟩⟩
    replace hy : y = atS p.ins (rd L (k : Int)).pc := hy
    replace hz : z = destS y := hz
    rw [← hy, ← hz]
    refine br_holds (fun h1 => br_beq (fun h2 => ?_) (fun h2 => ?_)) (fun h1 => ?_)
    · rw [if_pos ⟨h1, h2⟩]
      refine br_not (br_holds (fun h3 => ?_) (fun h3 => ?_))
      · rw [if_pos h3]; exact ret_le (RR.le_refl _)
      · rw [if_neg (by simp [h3])]; exact ret_le (RR.le_refl _)
    · rw [if_neg (fun q => h2 q.2)]; exact ih
    · rw [if_neg (fun q => by rw [h1] at q; cases q.1)]; exact ih
theorem back_okE (l : List Ent) (h : l.length ≤ 1000000000) : okBack (some 8) (rowsOn l) = true := by
  unfold okBack
  rw [Bool.and_eq_true]
  exact ⟨rowsOn_all l 8 rfl, decide_eq_true (by rw [rowsOn_length]; omega)⟩
theorem c_reg_good : c_reg.fe.Good Try.prog := by
  refine FT.good c_reg ⟨Try.f28, by kernel_rfl, by decide +kernel, by kernel_rfl⟩ (fun ⟨p, g, l, i, r⟩ => by first | rfl | simp [c_reg, rrRef, rrun, rstep, rins, rnum, rby, rss, rnewI, rnewE, rstab, rplaces, ri, rb, rib, rE, Sta.fresh]) fun ⟨p, g, l, i, r⟩ hp => ?_
  refine acalls_leT (tags := [832]) s_reg_sound (fn := Try.f28) (a := a_reg) (nargs := 5) (tbl := []) (by kernel_rfl) (by kernel_rfl) rfl (m := 400) ?_
  show VC.holds _ _ _ (a_reg.start s_reg 400 [ap p, aRegs g, aE l, ai i, ai r])
  rw [t_reg]
  try simp only [asRows_sl, asInt_int, asBool_bool, asStr_str, listOf_rowsOn, List.drop_zero, Prg.eta, Sta.eta, rowsOn_length, getD_drop, Nat.reduceAdd, rd_int, rd_PMem_name, rd_PMem_secret, rd_PMem_n, rd_PLabel_name, rd_PLabel_at_, rd_Ins_kind, rd_Ins_op, rd_Ins_d, rd_Ins_aR, rd_Ins_aN, rd_Ins_bR, rd_Ins_bN, rd_Ins_name, rd_Ins_target, rd_Ent_pc, rd_Ent_val, rd_Ent_addr, rd_Ent_fro, rd_Ent_next, rd_Ent_done, rd_Ent_known, rd_Ent_fault, rd_Place_reg, rd_Place_n, rd_Place_secret, rd_Obs_kind, rd_Obs_at_, rd_Dir_kind, rd_Dir_n, Prg.of_cells, Sta.of_cells]
  try simp only [c_reg] at hp
  have hc := cutS_len l i
  have e : c_reg.ans (p, g, l, i, r) = rib (regS p g l i r) := rfl
  rw [e]
  unfold regS
  refine br_dec (fun h => ?_) (fun h0 => br_dec (fun h => ?_) (fun h4 => ?_))
  · rw [if_pos (.inl h)]; exact ret_le (RR.le_refl _)
  · rw [if_pos (.inr h)]; exact ret_le (RR.le_refl _)
  rw [if_neg (by omega)]
  refine ⟨PreOk.mk hp rfl, PreOk.mk trivial rfl, back_okE _ (by have hp : l.length ≤ 1000000000 := hp; omega), ?_⟩
  exact l_reg p g _ i r _ _ _ _ (cutS l i) (by omega) (by omega) _ (Nat.le_refl _)
noncomputable def v_reg : Prg × Regs × List Ent × Int × Int → Int × Bool := fun x => regS x.1 x.2.1 x.2.2.1 x.2.2.2.1 x.2.2.2.2
noncomputable def sh_reg : Int × Bool → RR := fun y => rib y
theorem e_reg (x : Prg × Regs × List Ent × Int × Int) : sh_reg (v_reg x) = c_reg.ans x := rfl
def rdVal : List A → Prg × Regs × List Ent × Int × Bool × Int
  | [.agg q, .agg [.int _ a, .int _ b, .int _ c, .int _ d], .c (.sl l), .c (.int _ i), .agg [.bool r, .int _ n]] => (Prg.of q, ⟨a, b, c, d⟩, listOf Ent l, i, r, n)
  | _ => default
def valS2 (p : Prg) (g : Regs) (l : List Ent) (i : Int) (b : Bool) (n : Int) : Int × Bool := if b then regS p g l i n else (maskS p.w n, true)
def c_rval : FT (Prg × Regs × List Ent × Int × Bool × Int) := ⟨29, fun x => [ap x.1, aRegs x.2.1, aE x.2.2.1, ai x.2.2.2.1, aVal x.2.2.2.2.1 x.2.2.2.2.2], rdVal, fun x => x.2.2.1.length ≤ 1000000000, fun x => rib (valS2 x.1 x.2.1 x.2.2.1 x.2.2.2.1 x.2.2.2.2.1 x.2.2.2.2.2), false, fun x => by simp [ap, aRegs, aE, ai, aVal, rdVal]⟩
noncomputable def a_rval : FnA := (fnA Try.prog Try.f29 5 []).getD ⟨0, .skip, [], []⟩
noncomputable def s_rval : Sp := spT [c_reg.gfe v_reg sh_reg e_reg, c_wMask.fe]
theorem s_rval_sound : s_rval.sound Try.prog := spT_sound fun e he => by
  simp only [List.mem_cons, List.not_mem_nil, or_false] at he
  rcases he with rfl | rfl
  · exact FT.gfe_good c_reg_good
  · exact c_wMask_good
set_option maxRecDepth 100000 in
theorem t_rval (p : Prg) (g : Regs) (l : List Ent) (i : Int) (b : Bool) (n : Int) : a_rval.start s_rval 400 [ap p, aRegs g, aE l, ai i, aVal b n] =
(VC.br (b)
 (VC.need (PreOk c_reg (Prg.of (Prg.cells p), g, l, i, n) [A.agg (Prg.cells p), A.agg [D.int IntKind.i64 g.r0, D.int IntKind.i64 g.r1, D.int IntKind.i64 g.r2, D.int IntKind.i64 g.r3], A.c (D.sl (rowsOn l)), A.c (D.int IntKind.i64 i), A.c (D.int IntKind.i64 n)])
 (VC.all (v_reg (Prg.of (Prg.cells p), { r0 := g.r0, r1 := g.r1, r2 := g.r2, r3 := g.r3 }, listOf Ent (rowsOn l), i, n)) fun (y6 : Int × Bool) =>
 (VC.ret (some (RR.tup [Sum.inl (Rc.d (D.int IntKind.i64 y6.fst)), Sum.inl (Rc.d (D.bool y6.snd))])))))
 (VC.need (PreOk c_wMask (p.w, n) [A.c (D.int IntKind.i64 p.w), A.c (D.int IntKind.i64 n)])
 (VC.ret (some (RR.tup [Sum.inl (Rc.d (D.int IntKind.i64 (maskS p.w n))), Sum.inl (Rc.d (D.bool true))]))))) := by kernel_rfl
theorem c_rval_good : c_rval.fe.Good Try.prog := by
  refine FT.good c_rval ⟨Try.f29, by kernel_rfl, by decide +kernel, by kernel_rfl⟩ (fun ⟨p, g, l, i, b, n⟩ => by first | rfl | simp [c_rval, rrRef, rrun, rstep, rins, rnum, rby, rss, rnewI, rnewE, rstab, rplaces, ri, rb, rib, rE, Sta.fresh]) fun ⟨p, g, l, i, b, n⟩ hp => ?_
  refine acalls_le s_rval_sound (fn := Try.f29) (a := a_rval) (nargs := 5) (tbl := []) (by kernel_rfl) (by kernel_rfl) rfl (m := 400) ?_
  show VC.holds _ _ _ (a_rval.start s_rval 400 [ap p, aRegs g, aE l, ai i, aVal b n])
  rw [t_rval]
  try simp only [asRows_sl, asInt_int, asBool_bool, asStr_str, listOf_rowsOn, List.drop_zero, Prg.eta, Sta.eta, rowsOn_length, getD_drop, Nat.reduceAdd, rd_int, rd_PMem_name, rd_PMem_secret, rd_PMem_n, rd_PLabel_name, rd_PLabel_at_, rd_Ins_kind, rd_Ins_op, rd_Ins_d, rd_Ins_aR, rd_Ins_aN, rd_Ins_bR, rd_Ins_bN, rd_Ins_name, rd_Ins_target, rd_Ent_pc, rd_Ent_val, rd_Ent_addr, rd_Ent_fro, rd_Ent_next, rd_Ent_done, rd_Ent_known, rd_Ent_fault, rd_Place_reg, rd_Place_n, rd_Place_secret, rd_Obs_kind, rd_Obs_at_, rd_Dir_kind, rd_Dir_n, Prg.of_cells, Sta.of_cells]
  try simp only [c_rval] at hp
  have e : c_rval.ans (p, g, l, i, b, n) = rib (valS2 p g l i b n) := rfl
  rw [e]
  unfold valS2
  refine br_holds (fun h => ?_) (fun h => ?_)
  · rw [if_pos h]
    refine ⟨PreOk.mk hp rfl, all_holds fun y hy => ret_le ?_⟩
    subst hy
    exact RR.le_refl _
  · rw [if_neg (by rw [h]; simp)]
    exact ⟨PreOk.mk trivial rfl, ret_le (RR.le_refl _)⟩
noncomputable def v_rval : Prg × Regs × List Ent × Int × Bool × Int → Int × Bool := fun x => valS2 x.1 x.2.1 x.2.2.1 x.2.2.2.1 x.2.2.2.2.1 x.2.2.2.2.2
noncomputable def sh_rval : Int × Bool → RR := fun y => rib y
theorem e_rval (x : Prg × Regs × List Ent × Int × Bool × Int) : sh_rval (v_rval x) = c_rval.ans x := rfl
end Go.Proofs.Ytclabjihjopclaa.Ax
end

section
/- The statement ResoFences. -/
namespace Go.Proofs.Ytclabjihjopclaa.Ax
open Go.RowKit
set_option linter.unusedVariables false
set_option linter.unusedSimpArgs false
def rdI3 : List A → Int × Int × Int
  | [.c (.int _ a), .c (.int _ b), .c (.int _ c)] => (a, b, c)
  | _ => default
def c_lFen : FT (Int × Int × Int) := ⟨5, fun x => [ai x.1, ai x.2.1, ai x.2.2], rdI3, fun _ => True, fun x => rb true, false, fun x => by simp [ai, rdI3]⟩
noncomputable def a_lFen : FnA := (fnA Try.prog Try.f5 3 [(5, [0, 1, 2, 7, 8, 9, 1000008000000900001008]), (11, [0, 1, 2, 7, 8, 10, 11, 1000008000000900001008])]).getD ⟨0, .skip, [], []⟩
def s_lFen : Sp := spT [c_blk.fe, c_awake10.fe]
theorem s_lFen_sound : s_lFen.sound Try.prog := spT_sound fun e he => by
  simp only [List.mem_cons, List.not_mem_nil, or_false] at he
  rcases he with rfl | rfl
  · exact c_blk_good
  · exact c_awake10_good
def pFen : List (Nat × Blk) := [(448, bc [.d (.int .i64 1), .d (.int .i64 0), .d (.int .i64 0), .d (.int .i64 0), .d (.int .i64 0), .d (.int .i64 0), .d (.int .i64 0), .nil, .nil, .own 896 1 2]), (896, ba 9 [[.int .i64 1, .int .i64 1, .int .i64 0, .bool false, .int .i64 0, .bool false, .int .i64 0, .str ⟨#[]⟩, .int .i64 0], [.int .i64 10, .int .i64 0, .int .i64 0, .bool false, .int .i64 0, .bool false, .int .i64 0, .str ⟨#[]⟩, .int .i64 0]])]
def F_rf0 (row n at_ : Int) (m : Nat) (R : List (List D)) (i : Int) : St := ⟨mkS 70 [(0, vi row), (1, vi n), (2, vi at_), (7, vp 448), (8, vo 900001 m), (9, vi i)], pFen ++ [(900001, ba 8 R)]⟩
def F_rf1 (row n at_ : Int) (m : Nat) (R : List (List D)) (want : Bool) (i : Int) : St := ⟨mkS 70 [(0, vi row), (1, vi n), (2, vi at_), (7, vp 448), (8, vo 900001 m), (10, .c (.d (.bool want))), (11, vi i)], pFen ++ [(900001, ba 8 R)]⟩
set_option maxRecDepth 100000 in
theorem t_lFen (row n at_ : Int) : a_lFen.start s_lFen 400 [ai row, ai n, ai at_] =
(FnA.at_ a_lFen 0 (F_rf0 row (bits BinOp.and IntKind.i64 n (15 : Int)) at_ (0 : Nat) [] (0 : Int))) := by kernel_rfl
set_option maxRecDepth 100000 in
theorem t_rf0 (row n at_ : Int) (m : Nat) (R : List (List D)) (i : Int) : a_lFen.round s_lFen 400 0 (F_rf0 row n at_ m R i) =
(VC.br (decide (i < n))
 (VC.need ((0 : Int) ≤ IntKind.wrap IntKind.u64 i)
 (VC.need ((0 : Int) ≤ IntKind.wrap IntKind.u64 (IntKind.wrap IntKind.i64 (i + (16 : Int))))
 (VC.need ((List.all [[D.int IntKind.i64 (bits BinOp.and IntKind.i64 (Int.fdiv row ((2 : Int) ^ min (Int.toNat (IntKind.wrap IntKind.u64 i)) (64 : Nat))) (1 : Int)), D.int IntKind.i64 (0 : Int), D.int IntKind.i64 (0 : Int), D.int IntKind.i64 (0 : Int), D.int IntKind.i64 (0 : Int), D.bool (bits BinOp.and IntKind.i64 (Int.fdiv row ((2 : Int) ^ min (Int.toNat (IntKind.wrap IntKind.u64 (IntKind.wrap IntKind.i64 (i + (16 : Int))))) (64 : Nat))) (1 : Int) == (1 : Int)), D.bool false, D.bool false]] fun r ↦ List.length r == (8 : Nat)) = true ∧ (List.all R fun r ↦ List.length r == (8 : Nat)) = true ∧ (List.length R + List.length [[D.int IntKind.i64 (bits BinOp.and IntKind.i64 (Int.fdiv row ((2 : Int) ^ min (Int.toNat (IntKind.wrap IntKind.u64 i)) (64 : Nat))) (1 : Int)), D.int IntKind.i64 (0 : Int), D.int IntKind.i64 (0 : Int), D.int IntKind.i64 (0 : Int), D.int IntKind.i64 (0 : Int), D.bool (bits BinOp.and IntKind.i64 (Int.fdiv row ((2 : Int) ^ min (Int.toNat (IntKind.wrap IntKind.u64 (IntKind.wrap IntKind.i64 (i + (16 : Int))))) (64 : Nat))) (1 : Int) == (1 : Int)), D.bool false, D.bool false]] + (100 : Nat)) * (49 : Nat) ≤ (70368744177664 : Nat))
 (FnA.at_ a_lFen 0 (F_rf0 row n at_ (List.length R + List.length [[D.int IntKind.i64 (bits BinOp.and IntKind.i64 (Int.fdiv row ((2 : Int) ^ min (Int.toNat (IntKind.wrap IntKind.u64 i)) (64 : Nat))) (1 : Int)), D.int IntKind.i64 (0 : Int), D.int IntKind.i64 (0 : Int), D.int IntKind.i64 (0 : Int), D.int IntKind.i64 (0 : Int), D.bool (bits BinOp.and IntKind.i64 (Int.fdiv row ((2 : Int) ^ min (Int.toNat (IntKind.wrap IntKind.u64 (IntKind.wrap IntKind.i64 (i + (16 : Int))))) (64 : Nat))) (1 : Int) == (1 : Int)), D.bool false, D.bool false]]) (R ++ [[D.int IntKind.i64 (bits BinOp.and IntKind.i64 (Int.fdiv row ((2 : Int) ^ min (Int.toNat (IntKind.wrap IntKind.u64 i)) (64 : Nat))) (1 : Int)), D.int IntKind.i64 (0 : Int), D.int IntKind.i64 (0 : Int), D.int IntKind.i64 (0 : Int), D.int IntKind.i64 (0 : Int), D.bool (bits BinOp.and IntKind.i64 (Int.fdiv row ((2 : Int) ^ min (Int.toNat (IntKind.wrap IntKind.u64 (IntKind.wrap IntKind.i64 (i + (16 : Int))))) (64 : Nat))) (1 : Int) == (1 : Int)), D.bool false, D.bool false]]) (IntKind.wrap IntKind.i64 (i + (1 : Int))))))))
 (FnA.at_ a_lFen 1 (F_rf1 row n (IntKind.wrap IntKind.i64 (bits BinOp.and IntKind.i64 at_ (31 : Int) - (4 : Int))) m R false (0 : Int)))) := by kernel_rfl
set_option maxRecDepth 100000 in
theorem t_rf1 (row n at_ : Int) (m : Nat) (R : List (List D)) (want : Bool) (i : Int) : a_lFen.round s_lFen 400 1 (F_rf1 row n at_ m R want i) =
(VC.br (decide (i < at_))
 (VC.br (decide (i < n))
  (VC.br (want)
   (FnA.at_ a_lFen 1 (F_rf1 row n at_ m R true (IntKind.wrap IntKind.i64 (i + (1 : Int)))))
   (VC.need ((0 : Int) ≤ IntKind.wrap IntKind.u64 i)
   (FnA.at_ a_lFen 1 (F_rf1 row n at_ m R (bits BinOp.and IntKind.i64 (Int.fdiv row ((2 : Int) ^ min (Int.toNat (IntKind.wrap IntKind.u64 i)) (64 : Nat))) (1 : Int) == (1 : Int)) (IntKind.wrap IntKind.i64 (i + (1 : Int)))))))
  (VC.need (PreOk c_blk (Prg.of [D.int IntKind.i64 (1 : Int), D.int IntKind.i64 (0 : Int), D.int IntKind.i64 (0 : Int), D.int IntKind.i64 (0 : Int), D.int IntKind.i64 (0 : Int), D.int IntKind.i64 (0 : Int), D.int IntKind.i64 (0 : Int), D.sl [], D.sl [], D.sl [[D.int IntKind.i64 (1 : Int), D.int IntKind.i64 (1 : Int), D.int IntKind.i64 (0 : Int), D.bool false, D.int IntKind.i64 (0 : Int), D.bool false, D.int IntKind.i64 (0 : Int), D.str { data := #[] }, D.int IntKind.i64 (0 : Int)], [D.int IntKind.i64 (10 : Int), D.int IntKind.i64 (0 : Int), D.int IntKind.i64 (0 : Int), D.bool false, D.int IntKind.i64 (0 : Int), D.bool false, D.int IntKind.i64 (0 : Int), D.str { data := #[] }, D.int IntKind.i64 (0 : Int)]]], listOf Ent R, at_) [A.agg [D.int IntKind.i64 (1 : Int), D.int IntKind.i64 (0 : Int), D.int IntKind.i64 (0 : Int), D.int IntKind.i64 (0 : Int), D.int IntKind.i64 (0 : Int), D.int IntKind.i64 (0 : Int), D.int IntKind.i64 (0 : Int), D.sl [], D.sl [], D.sl [[D.int IntKind.i64 (1 : Int), D.int IntKind.i64 (1 : Int), D.int IntKind.i64 (0 : Int), D.bool false, D.int IntKind.i64 (0 : Int), D.bool false, D.int IntKind.i64 (0 : Int), D.str { data := #[] }, D.int IntKind.i64 (0 : Int)], [D.int IntKind.i64 (10 : Int), D.int IntKind.i64 (0 : Int), D.int IntKind.i64 (0 : Int), D.bool false, D.int IntKind.i64 (0 : Int), D.bool false, D.int IntKind.i64 (0 : Int), D.str { data := #[] }, D.int IntKind.i64 (0 : Int)]]], A.c (D.sl R), A.c (D.int IntKind.i64 at_)])
  (VC.br (if false = true then !decide ((0 : Int) ≤ ixS (Prg.of [D.int IntKind.i64 (1 : Int), D.int IntKind.i64 (0 : Int), D.int IntKind.i64 (0 : Int), D.int IntKind.i64 (0 : Int), D.int IntKind.i64 (0 : Int), D.int IntKind.i64 (0 : Int), D.int IntKind.i64 (0 : Int), D.sl [], D.sl [], D.sl [[D.int IntKind.i64 (1 : Int), D.int IntKind.i64 (1 : Int), D.int IntKind.i64 (0 : Int), D.bool false, D.int IntKind.i64 (0 : Int), D.bool false, D.int IntKind.i64 (0 : Int), D.str { data := #[] }, D.int IntKind.i64 (0 : Int)], [D.int IntKind.i64 (10 : Int), D.int IntKind.i64 (0 : Int), D.int IntKind.i64 (0 : Int), D.bool false, D.int IntKind.i64 (0 : Int), D.bool false, D.int IntKind.i64 (0 : Int), D.str { data := #[] }, D.int IntKind.i64 (0 : Int)]]]) (cutS (listOf Ent R) at_)) == want else decide ((0 : Int) ≤ ixS (Prg.of [D.int IntKind.i64 (1 : Int), D.int IntKind.i64 (0 : Int), D.int IntKind.i64 (0 : Int), D.int IntKind.i64 (0 : Int), D.int IntKind.i64 (0 : Int), D.int IntKind.i64 (0 : Int), D.int IntKind.i64 (0 : Int), D.sl [], D.sl [], D.sl [[D.int IntKind.i64 (1 : Int), D.int IntKind.i64 (1 : Int), D.int IntKind.i64 (0 : Int), D.bool false, D.int IntKind.i64 (0 : Int), D.bool false, D.int IntKind.i64 (0 : Int), D.str { data := #[] }, D.int IntKind.i64 (0 : Int)], [D.int IntKind.i64 (10 : Int), D.int IntKind.i64 (0 : Int), D.int IntKind.i64 (0 : Int), D.bool false, D.int IntKind.i64 (0 : Int), D.bool false, D.int IntKind.i64 (0 : Int), D.str { data := #[] }, D.int IntKind.i64 (0 : Int)]]]) (cutS (listOf Ent R) at_)) == want)
   (VC.need (PreOk c_awake10 PUnit.unit [])
   (VC.ret (some (RR.c (Rc.d (D.bool true))))))
   (VC.ret (some (RR.c (Rc.d (D.bool false))))))))
 (VC.need (PreOk c_blk (Prg.of [D.int IntKind.i64 (1 : Int), D.int IntKind.i64 (0 : Int), D.int IntKind.i64 (0 : Int), D.int IntKind.i64 (0 : Int), D.int IntKind.i64 (0 : Int), D.int IntKind.i64 (0 : Int), D.int IntKind.i64 (0 : Int), D.sl [], D.sl [], D.sl [[D.int IntKind.i64 (1 : Int), D.int IntKind.i64 (1 : Int), D.int IntKind.i64 (0 : Int), D.bool false, D.int IntKind.i64 (0 : Int), D.bool false, D.int IntKind.i64 (0 : Int), D.str { data := #[] }, D.int IntKind.i64 (0 : Int)], [D.int IntKind.i64 (10 : Int), D.int IntKind.i64 (0 : Int), D.int IntKind.i64 (0 : Int), D.bool false, D.int IntKind.i64 (0 : Int), D.bool false, D.int IntKind.i64 (0 : Int), D.str { data := #[] }, D.int IntKind.i64 (0 : Int)]]], listOf Ent R, at_) [A.agg [D.int IntKind.i64 (1 : Int), D.int IntKind.i64 (0 : Int), D.int IntKind.i64 (0 : Int), D.int IntKind.i64 (0 : Int), D.int IntKind.i64 (0 : Int), D.int IntKind.i64 (0 : Int), D.int IntKind.i64 (0 : Int), D.sl [], D.sl [], D.sl [[D.int IntKind.i64 (1 : Int), D.int IntKind.i64 (1 : Int), D.int IntKind.i64 (0 : Int), D.bool false, D.int IntKind.i64 (0 : Int), D.bool false, D.int IntKind.i64 (0 : Int), D.str { data := #[] }, D.int IntKind.i64 (0 : Int)], [D.int IntKind.i64 (10 : Int), D.int IntKind.i64 (0 : Int), D.int IntKind.i64 (0 : Int), D.bool false, D.int IntKind.i64 (0 : Int), D.bool false, D.int IntKind.i64 (0 : Int), D.str { data := #[] }, D.int IntKind.i64 (0 : Int)]]], A.c (D.sl R), A.c (D.int IntKind.i64 at_)])
 (VC.br (if false = true then !decide ((0 : Int) ≤ ixS (Prg.of [D.int IntKind.i64 (1 : Int), D.int IntKind.i64 (0 : Int), D.int IntKind.i64 (0 : Int), D.int IntKind.i64 (0 : Int), D.int IntKind.i64 (0 : Int), D.int IntKind.i64 (0 : Int), D.int IntKind.i64 (0 : Int), D.sl [], D.sl [], D.sl [[D.int IntKind.i64 (1 : Int), D.int IntKind.i64 (1 : Int), D.int IntKind.i64 (0 : Int), D.bool false, D.int IntKind.i64 (0 : Int), D.bool false, D.int IntKind.i64 (0 : Int), D.str { data := #[] }, D.int IntKind.i64 (0 : Int)], [D.int IntKind.i64 (10 : Int), D.int IntKind.i64 (0 : Int), D.int IntKind.i64 (0 : Int), D.bool false, D.int IntKind.i64 (0 : Int), D.bool false, D.int IntKind.i64 (0 : Int), D.str { data := #[] }, D.int IntKind.i64 (0 : Int)]]]) (cutS (listOf Ent R) at_)) == want else decide ((0 : Int) ≤ ixS (Prg.of [D.int IntKind.i64 (1 : Int), D.int IntKind.i64 (0 : Int), D.int IntKind.i64 (0 : Int), D.int IntKind.i64 (0 : Int), D.int IntKind.i64 (0 : Int), D.int IntKind.i64 (0 : Int), D.int IntKind.i64 (0 : Int), D.sl [], D.sl [], D.sl [[D.int IntKind.i64 (1 : Int), D.int IntKind.i64 (1 : Int), D.int IntKind.i64 (0 : Int), D.bool false, D.int IntKind.i64 (0 : Int), D.bool false, D.int IntKind.i64 (0 : Int), D.str { data := #[] }, D.int IntKind.i64 (0 : Int)], [D.int IntKind.i64 (10 : Int), D.int IntKind.i64 (0 : Int), D.int IntKind.i64 (0 : Int), D.bool false, D.int IntKind.i64 (0 : Int), D.bool false, D.int IntKind.i64 (0 : Int), D.str { data := #[] }, D.int IntKind.i64 (0 : Int)]]]) (cutS (listOf Ent R) at_)) == want)
  (VC.need (PreOk c_awake10 PUnit.unit [])
  (VC.ret (some (RR.c (Rc.d (D.bool true))))))
  (VC.ret (some (RR.c (Rc.d (D.bool false)))))))) := by kernel_rfl
theorem rd_getE (l : List Ent) (k : Nat) (h : k < l.length) : rd l (k : Int) = l[k] := by
  unfold rd
  rw [Int.toNat_natCast, List.getD_eq_getElem?_getD, List.getElem?_eq_getElem h]
  rfl
def bitF (row i : Int) : Int := bits .and .i64 (Int.fdiv row (2 ^ min (Int.toNat (IntKind.wrap .u64 i)) 64)) 1
def entF (row i : Int) : Ent := ⟨bitF row i, 0, 0, 0, 0, bits .and .i64 (Int.fdiv row (2 ^ min (Int.toNat (IntKind.wrap .u64 (IntKind.wrap .i64 (i + 16)))) 64)) 1 == 1, false, false⟩
def anyB (row : Int) : Nat → Bool
  | 0 => false
  | k + 1 => anyB row k || bitF row k == 1
def pFn : Prg := ⟨1, 0, 0, 0, 0, 0, 0, [], [], [⟨1, 1, 0, false, 0, false, 0, ⟨#[]⟩, 0⟩, ⟨10, 0, 0, false, 0, false, 0, ⟨#[]⟩, 0⟩]⟩
theorem bitF_01 (row i : Int) : bitF row i = 0 ∨ bitF row i = 1 := by
  unfold bitF
  rw [and1]
  omega
theorem ixF_any (p : Prg) (l : List Ent) : ∀ (m k : Nat), (0 ≤ ixF p l m k ↔ ∃ j : Nat, k ≤ j ∧ j < k + m ∧ fenS p (rd l (j : Int)) = true)
  | 0, k => ⟨fun h => by simp [ixF] at h, fun ⟨j, h1, h2, _⟩ => by omega⟩
  | m + 1, k => by
    have ih := ixF_any p l m (k + 1)
    unfold ixF
    by_cases h : fenS p (rd l (k : Int)) = true
    · rw [if_pos h]
      exact ⟨fun _ => ⟨k, by omega, by omega, h⟩, fun _ => by omega⟩
    · rw [if_neg h, ih]
      constructor
      · rintro ⟨j, h1, h2, h3⟩
        exact ⟨j, by omega, by omega, h3⟩
      · rintro ⟨j, h1, h2, h3⟩
        by_cases e : j = k
        · rw [e] at h3; exact absurd h3 h
        · exact ⟨j, by omega, by omega, h3⟩
theorem anyB_iff (row : Int) : ∀ j : Nat, (anyB row j = true ↔ ∃ k : Nat, k < j ∧ bitF row k = 1)
  | 0 => ⟨fun h => by simp [anyB] at h, fun ⟨k, h, _⟩ => by omega⟩
  | j + 1 => by
    have ih := anyB_iff row j
    unfold anyB
    rw [Bool.or_eq_true, ih, beq_iff_eq]
    constructor
    · rintro (⟨k, h1, h2⟩ | h)
      · exact ⟨k, by omega, h2⟩
      · exact ⟨j, by omega, h⟩
    · rintro ⟨k, h1, h2⟩
      by_cases e : k = j
      · rw [e] at h2; exact .inr h2
      · exact .inl ⟨k, by omega, h2⟩
theorem fen_pc (row : Int) (e : Ent) (i : Int) (h : e.pc = bitF row i) : fenS pFn e = true ↔ bitF row i = 1 := by
  unfold fenS
  rw [h]
  rcases bitF_01 row i with h | h <;> rw [h] <;> decide
theorem fen_key (row : Int) (l : List Ent) (hpc : ∀ (k : Nat) (h : k < l.length), l[k].pc = bitF row k) (j : Nat) (hj : j ≤ l.length) : decide (0 ≤ ixS pFn (l.take j)) = anyB row j := by
  have hlen : (l.take j).length = j := by simp; omega
  have hrd : ∀ k : Nat, k < j → (rd (l.take j) (k : Int)).pc = bitF row k := fun k hk => by
    rw [rd_getE _ k (by omega), List.getElem_take]
    exact hpc k (by omega)
  cases hb : anyB row j with
  | true =>
    obtain ⟨k, h1, h2⟩ := (anyB_iff row j).1 hb
    exact decide_eq_true ((ixF_any pFn _ _ _).2 ⟨k, by omega, by omega, (fen_pc row _ _ (hrd k h1)).2 h2⟩)
  | false =>
    refine decide_eq_false fun h => ?_
    obtain ⟨k, h1, h2, h3⟩ := (ixF_any pFn _ _ _).1 h
    have : anyB row j = true := (anyB_iff row j).2 ⟨k, by omega, (fen_pc row _ _ (hrd k (by omega))).1 h3⟩
    rw [hb] at this; cases this
theorem l_rf1 (row n at_ : Int) (l : List Ent) (hl : (l.length : Int) = n) (hn : n ≤ 15) (hpc : ∀ (k : Nat) (h : k < l.length), l[k].pc = bitF row k) : ∀ i : Int × Bool, (fun (i : Int × Bool) => 0 ≤ i.1 ∧ i.1 ≤ n ∧ i.1 ≤ max at_ 0 ∧ i.2 = anyB row i.1.toNat) i → (a_lFen.at_ 1 ((fun (i : Int × Bool) => F_rf1 row n at_ l.length (rowsOn l) i.2 i.1) i)).holds s_lFen.cx a_lFen.rs (fun r => r.le (rb true)) := by
  refine loop_rule (a := a_lFen) (j := 1) (m := 400) s_lFen_sound (fun (i : Int × Bool) => F_rf1 row n at_ l.length (rowsOn l) i.2 i.1) (fun (i : Int × Bool) => 0 ≤ i.1 ∧ i.1 ≤ n ∧ i.1 ≤ max at_ 0 ∧ i.2 = anyB row i.1.toNat) (fun (i : Int × Bool) => (n - i.1).toNat) ?_
  rintro ⟨i, want⟩ h_inv ih
  try dsimp only at h_inv
  replace ih := fun (v0 : Int) (v1 : Bool) => ih (v0, v1)
  try dsimp only at ih
  show VC.holds _ _ _ (a_lFen.round s_lFen 400 1 (F_rf1 row n at_ l.length (rowsOn l) want i))
  rw [t_rf1]
  try simp only [asRows_sl, asInt_int, asBool_bool, asStr_str, listOf_rowsOn, List.drop_zero, Prg.eta, Sta.eta, rowsOn_length, getD_drop, Nat.reduceAdd, rd_int, rd_PMem_name, rd_PMem_secret, rd_PMem_n, rd_PLabel_name, rd_PLabel_at_, rd_Ins_kind, rd_Ins_op, rd_Ins_d, rd_Ins_aR, rd_Ins_aN, rd_Ins_bR, rd_Ins_bN, rd_Ins_name, rd_Ins_target, rd_Ent_pc, rd_Ent_val, rd_Ent_addr, rd_Ent_fro, rd_Ent_next, rd_Ent_done, rd_Ent_known, rd_Ent_fault, rd_Place_reg, rd_Place_n, rd_Place_secret, rd_Obs_kind, rd_Obs_at_, rd_Dir_kind, rd_Dir_n, Prg.of_cells, Sta.of_cells]
  obtain ⟨h0, h1, h2, h3⟩ := h_inv
  have w1 : IntKind.wrap .i64 (i + 1) = i + 1 := wrap_small _ (by omega) (by omega)
  simp only [w1]
  have en : (i + 1).toNat = i.toNat + 1 := by omega
  have ei : ((i.toNat : Nat) : Int) = i := by omega
  have hs : anyB row (i.toNat + 1) = (anyB row i.toNat || bitF row i == 1) := by
    show (anyB row i.toNat || bitF row ((i.toNat : Nat) : Int) == 1) = _
    rw [ei]
  have key : i = min (max at_ 0) n → (decide (0 ≤ ixS pFn (cutS l at_)) == want) = true := fun e => by
    have ec : cutS l at_ = l.take i.toNat := by unfold cutS; rw [hl, ← e]
    rw [ec, fen_key row l hpc i.toNat (by omega), h3]
    simp
  refine br_dec (fun hd => br_dec (fun he => ?_) (fun he => ?_)) (fun hd => ?_)
  · refine br_holds (fun hw => ?_) (fun hw => ⟨by rw [IntKind.wrap_u64]; omega, ?_⟩)
    · exact ih _ _ ⟨by omega, by omega, by omega, by rw [en, hs, ← h3, hw]; rfl⟩ (by omega)
    · exact ih _ _ ⟨by omega, by omega, by omega, by rw [en, hs, ← h3, hw]; rfl⟩ (by omega)
  · exact ⟨PreOk.mk (by dsimp only [c_blk]; omega) rfl, br_t (key (by omega)) ⟨PreOk.mk trivial rfl, ret_le (RR.le_refl _)⟩⟩
  · exact ⟨PreOk.mk (by dsimp only [c_blk]; omega) rfl, br_t (key (by omega)) ⟨PreOk.mk trivial rfl, ret_le (RR.le_refl _)⟩⟩
theorem l_rf0 (row n at_ : Int) (hn0 : 0 ≤ n) (hn : n ≤ 15) : ∀ i : Int × Nat × List (List D), (fun (i : Int × Nat × List (List D)) => 0 ≤ i.1 ∧ i.1 ≤ n ∧ ∃ l : List Ent, OnL i.2.2 i.2.1 l ∧ (l.length : Int) = i.1 ∧ ∀ (k : Nat) (h : k < l.length), l[k].pc = bitF row k) i → (a_lFen.at_ 0 ((fun (i : Int × Nat × List (List D)) => F_rf0 row n at_ i.2.1 i.2.2 i.1) i)).holds s_lFen.cx a_lFen.rs (fun r => r.le (rb true)) := by
  refine loop_rule (a := a_lFen) (j := 0) (m := 400) s_lFen_sound (fun (i : Int × Nat × List (List D)) => F_rf0 row n at_ i.2.1 i.2.2 i.1) (fun (i : Int × Nat × List (List D)) => 0 ≤ i.1 ∧ i.1 ≤ n ∧ ∃ l : List Ent, OnL i.2.2 i.2.1 l ∧ (l.length : Int) = i.1 ∧ ∀ (k : Nat) (h : k < l.length), l[k].pc = bitF row k) (fun (i : Int × Nat × List (List D)) => (n - i.1).toNat) ?_
  rintro ⟨i, m, R⟩ h_inv ih
  try dsimp only at h_inv
  replace ih := fun (v0 : Int) (v1 : Nat) (v2 : List (List D)) => ih (v0, v1, v2)
  try dsimp only at ih
  show VC.holds _ _ _ (a_lFen.round s_lFen 400 0 (F_rf0 row n at_ m R i))
  rw [t_rf0]
  try simp only [asRows_sl, asInt_int, asBool_bool, asStr_str, listOf_rowsOn, List.drop_zero, Prg.eta, Sta.eta, rowsOn_length, getD_drop, Nat.reduceAdd, rd_int, rd_PMem_name, rd_PMem_secret, rd_PMem_n, rd_PLabel_name, rd_PLabel_at_, rd_Ins_kind, rd_Ins_op, rd_Ins_d, rd_Ins_aR, rd_Ins_aN, rd_Ins_bR, rd_Ins_bN, rd_Ins_name, rd_Ins_target, rd_Ent_pc, rd_Ent_val, rd_Ent_addr, rd_Ent_fro, rd_Ent_next, rd_Ent_done, rd_Ent_known, rd_Ent_fault, rd_Place_reg, rd_Place_n, rd_Place_secret, rd_Obs_kind, rd_Obs_at_, rd_Dir_kind, rd_Dir_n, Prg.of_cells, Sta.of_cells]
  obtain ⟨h0, h1, l, h2, h3, h4⟩ := h_inv
  have w1 : IntKind.wrap .i64 (i + 1) = i + 1 := wrap_small _ (by omega) (by omega)
  simp only [w1]
  refine br_dec (fun hd => ?_) (fun hd => ?_)
  · refine ⟨by rw [IntKind.wrap_u64]; omega, by rw [IntKind.wrap_u64]; omega, app_ok h2 rfl rfl (by simp only [List.length_cons, List.length_nil]; omega), ih _ _ _ ⟨by omega, by omega, l ++ [entF row i], h2.snoc (entF row i), by simp; omega, fun k hk => ?_⟩ (by omega)⟩
    by_cases hlt : k < l.length
    · rw [List.getElem_append_left hlt]; exact h4 k hlt
    · have e : k = l.length := by simp at hk; omega
      subst e
      rw [List.getElem_append_right (Nat.le_refl _)]
      simp only [Nat.sub_self, List.getElem_cons_zero]
      show bitF row i = _
      rw [h3]
  · have a1 : bits .and .i64 at_ 31 = at_ % 32 := and31 at_
    obtain ⟨rfl, rfl⟩ := h2
    rw [a1, wrap_small (at_ % 32 - 4) (by omega) (by omega)]
    exact l_rf1 row n (at_ % 32 - 4) l (by omega) hn h4 (0, false) ⟨by omega, hn0, by dsimp only; omega, rfl⟩
theorem c_lFen_good : c_lFen.fe.Good Try.prog := by
  refine FT.good c_lFen ⟨Try.f5, by kernel_rfl, by decide +kernel, by kernel_rfl⟩ (fun ⟨row, n, at_⟩ => by first | rfl | simp [c_lFen, rrRef, rE, rrun, rstep, rins, rnum, rby, rss, rnewI, rnewE, rstab, rplaces, ri, rb, rib, Sta.fresh]) fun ⟨row, n, at_⟩ hp => ?_
  refine acalls_le s_lFen_sound (fn := Try.f5) (a := a_lFen) (nargs := 3) (tbl := [(5, [0, 1, 2, 7, 8, 9, 1000008000000900001008]), (11, [0, 1, 2, 7, 8, 10, 11, 1000008000000900001008])]) (by kernel_rfl) (by kernel_rfl) rfl (m := 400) ?_
  show VC.holds _ _ _ (a_lFen.start s_lFen 400 [ai row, ai n, ai at_])
  rw [t_lFen]
  try simp only [asRows_sl, asInt_int, asBool_bool, asStr_str, listOf_rowsOn, List.drop_zero, Prg.eta, Sta.eta, rowsOn_length, getD_drop, Nat.reduceAdd, rd_int, rd_PMem_name, rd_PMem_secret, rd_PMem_n, rd_PLabel_name, rd_PLabel_at_, rd_Ins_kind, rd_Ins_op, rd_Ins_d, rd_Ins_aR, rd_Ins_aN, rd_Ins_bR, rd_Ins_bN, rd_Ins_name, rd_Ins_target, rd_Ent_pc, rd_Ent_val, rd_Ent_addr, rd_Ent_fro, rd_Ent_next, rd_Ent_done, rd_Ent_known, rd_Ent_fault, rd_Place_reg, rd_Place_n, rd_Place_secret, rd_Obs_kind, rd_Obs_at_, rd_Dir_kind, rd_Dir_n, Prg.of_cells, Sta.of_cells]
  try simp only [c_lFen] at hp
  have a1 : bits .and .i64 n 15 = n % 16 := and_mask n 4 (by decide)
  rw [a1]
  exact l_rf0 row (n % 16) at_ (by omega) (by omega) (0, 0, []) ⟨by omega, by dsimp only; omega, [], OnL.nil, rfl, fun k h => by simp at h⟩
end Go.Proofs.Ytclabjihjopclaa.Ax
end
