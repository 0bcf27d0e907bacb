/- Several texts in one, in their order. -/
import Derived.Test.YtclabjihjopclaaPart3
import Derived.Test.YtclabjihjopclaaAxTg
section
/- Layer 10: what a register holds under way. -/
namespace Go.Proofs.Ytclabjihjopclaa.Ax
open Go.RowKit
set_option linter.unusedVariables false
set_option linter.unusedSimpArgs false
def cutS (l : List Ent) (i : Int) : List Ent := l.take (min (max i 0) l.length).toNat
theorem cutS_len (l : List Ent) (i : Int) : (cutS l i).length ≤ l.length := by simp only [cutS, List.length_take]; omega
theorem okE (l : List Ent) : (List.all (rowsOn l) fun r => List.length r == 8) = true := rowsOn_all _ _ rfl
def aE (l : List Ent) : A := .c (.sl (rowsOn l))
def aEnt (e : Ent) : A := .agg (row e)
def rdEI : List A → List Ent × Int
  | [.c (.sl l), .c (.int _ i)] => (listOf Ent l, i)
  | _ => default
def rE (l : List Ent) : RR := .c (.d (.sl (rowsOn l)))
def c_cut : FT (List Ent × Int) := ⟨78, fun x => [aE x.1, ai x.2], rdEI, fun x => x.1.length ≤ 1000000000, fun x => rE (cutS x.1 x.2), true, fun x => by simp [aE, ai, rdEI]⟩
noncomputable def a_cut : FnA := (fnA Try.prog Try.f78 2 []).getD ⟨0, .skip, [], []⟩
def s_cut : Sp := spT [c_cloneE.fe]
theorem s_cut_sound : s_cut.sound Try.prog := spT_sound fun e he => by
  simp only [List.mem_cons, List.not_mem_nil, or_false] at he
  rcases he with rfl
  · exact c_cloneE_good
set_option maxRecDepth 100000 in
theorem t_cut (l : List Ent) (i : Int) : a_cut.start s_cut 400 [aE l, ai i] =
(VC.need ((List.all (rowsOn l) fun r ↦ List.length r == (8 : Nat)) = true ∧ (0 : Int) ≤ (0 : Int) ∧ (0 : Int) ≤ min (max i (0 : Int)) (↑(List.length (rowsOn l)) : Int) ∧ min (max i (0 : Int)) (↑(List.length (rowsOn l)) : Int) ≤ (↑(List.length (rowsOn l)) : Int))
(VC.need (PreOk c_cloneE (listOf Ent (List.drop (0 : Nat) (List.take (Int.toNat (min (max i (0 : Int)) (↑(List.length (rowsOn l)) : Int))) (rowsOn l))), ()) [A.c (D.sl (List.drop (0 : Nat) (List.take (Int.toNat (min (max i (0 : Int)) (↑(List.length (rowsOn l)) : Int))) (rowsOn l))))])
(VC.ret (some (RR.c (Rc.new (8 : Nat) (rowsOn (listOf Ent (List.drop (0 : Nat) (List.take (Int.toNat (min (max i (0 : Int)) (↑(List.length (rowsOn l)) : Int))) (rowsOn l))))))))))) := by kernel_rfl
theorem c_cut_good : c_cut.fe.Good Try.prog := by
  refine FT.good c_cut ⟨Try.f78, by kernel_rfl, by decide +kernel, by kernel_rfl⟩ (fun ⟨l, i⟩ => by first | rfl | simp [c_cut, rrRef, rrun, rstep, rins, rnum, rby, rss, rnewI, rnewE, rstab, rplaces, ri, rb, rib, rE, Sta.fresh]) fun ⟨l, i⟩ hp => ?_
  refine acalls_leD s_cut_sound (fn := Try.f78) (a := a_cut) (nargs := 2) (tbl := []) (by kernel_rfl) (by kernel_rfl) rfl (m := 400) ?_
  show VC.holds _ _ _ (a_cut.start s_cut 400 [aE l, ai i])
  rw [t_cut]
  try simp only [asRows_sl, asInt_int, asBool_bool, asStr_str, listOf_rowsOn, List.drop_zero, Prg.eta, Sta.eta, rowsOn_length, getD_drop, Nat.reduceAdd, rd_int, rd_PMem_name, rd_PMem_secret, rd_PMem_n, rd_PLabel_name, rd_PLabel_at_, rd_Ins_kind, rd_Ins_op, rd_Ins_d, rd_Ins_aR, rd_Ins_aN, rd_Ins_bR, rd_Ins_bN, rd_Ins_name, rd_Ins_target, rd_Ent_pc, rd_Ent_val, rd_Ent_addr, rd_Ent_fro, rd_Ent_next, rd_Ent_done, rd_Ent_known, rd_Ent_fault, rd_Place_reg, rd_Place_n, rd_Place_secret, rd_Obs_kind, rd_Obs_at_, rd_Dir_kind, rd_Dir_n, Prg.of_cells, Sta.of_cells]
  try simp only [c_cut] at hp
  have hc := cutS_len l i
  simp only [rowsOn_take, listOf_rowsOn]
  refine ⟨⟨okE l, by omega, by omega, by omega⟩, PreOk.mk (by dsimp only [c_cloneE]; simp only [List.length_take]; omega) rfl, ret_leD (RR.le_of_eq rfl)⟩
def rdIns : List A → Ins × Unit
  | [.agg r] => (Row.of r, ())
  | _ => default
def destS (x : Ins) : Int × Bool := if x.kind = 1 ∨ x.kind = 2 ∨ x.kind = 4 then (x.d, true) else (0, false)
def c_dest : FT (Ins × Unit) := ⟨32, fun x => [aIns x.1], rdIns, fun _ => True, fun x => rib (destS x.1), false, fun x => by simp [aIns, rdIns]; rfl⟩
noncomputable def a_dest : FnA := (fnA Try.prog Try.f32 1 []).getD ⟨0, .skip, [], []⟩
def s_dest : Sp := spT []
theorem s_dest_sound : s_dest.sound Try.prog := spT_sound fun e he => by cases he
set_option maxRecDepth 100000 in
theorem t_dest (x : Ins) : a_dest.start s_dest 400 [aIns x] =
(VC.br (x.kind == (1 : Int))
 (VC.ret (some (RR.tup [Sum.inl (Rc.d (D.int IntKind.i64 x.d)), Sum.inl (Rc.d (D.bool true))])))
 (VC.br (x.kind == (2 : Int))
  (VC.ret (some (RR.tup [Sum.inl (Rc.d (D.int IntKind.i64 x.d)), Sum.inl (Rc.d (D.bool true))])))
  (VC.br (x.kind == (4 : Int))
   (VC.ret (some (RR.tup [Sum.inl (Rc.d (D.int IntKind.i64 x.d)), Sum.inl (Rc.d (D.bool true))])))
   (VC.ret (some (RR.tup [Sum.inl (Rc.d (D.int IntKind.i64 (0 : Int))), Sum.inl (Rc.d (D.bool false))])))))) := by kernel_rfl
theorem c_dest_good : c_dest.fe.Good Try.prog := by
  refine FT.good c_dest ⟨Try.f32, by kernel_rfl, by decide +kernel, by kernel_rfl⟩ (fun ⟨x, u⟩ => by first | rfl | simp [c_dest, rrRef, rrun, rstep, rins, rnum, rby, rss, rnewI, rnewE, rstab, rplaces, ri, rb, rib, rE, Sta.fresh]) fun ⟨x, u⟩ hp => ?_
  refine acalls_le s_dest_sound (fn := Try.f32) (a := a_dest) (nargs := 1) (tbl := []) (by kernel_rfl) (by kernel_rfl) rfl (m := 400) ?_
  show VC.holds _ _ _ (a_dest.start s_dest 400 [aIns x])
  rw [t_dest]
  try simp only [asRows_sl, asInt_int, asBool_bool, asStr_str, listOf_rowsOn, List.drop_zero, Prg.eta, Sta.eta, rowsOn_length, getD_drop, Nat.reduceAdd, rd_int, rd_PMem_name, rd_PMem_secret, rd_PMem_n, rd_PLabel_name, rd_PLabel_at_, rd_Ins_kind, rd_Ins_op, rd_Ins_d, rd_Ins_aR, rd_Ins_aN, rd_Ins_bR, rd_Ins_bN, rd_Ins_name, rd_Ins_target, rd_Ent_pc, rd_Ent_val, rd_Ent_addr, rd_Ent_fro, rd_Ent_next, rd_Ent_done, rd_Ent_known, rd_Ent_fault, rd_Place_reg, rd_Place_n, rd_Place_secret, rd_Obs_kind, rd_Obs_at_, rd_Dir_kind, rd_Dir_n, Prg.of_cells, Sta.of_cells]
  try simp only [c_dest] at hp
  have e : c_dest.ans (x, u) = rib (destS x) := rfl
  rw [e]
  unfold destS
  refine br_beq (fun h => ?_) (fun h1 => br_beq (fun h => ?_) (fun h2 => br_beq (fun h => ?_) (fun h3 => ?_)))
  · rw [if_pos (.inl h)]; exact ret_le (RR.le_refl _)
  · rw [if_pos (.inr (.inl h))]; exact ret_le (RR.le_refl _)
  · rw [if_pos (.inr (.inr h))]; exact ret_le (RR.le_refl _)
  · rw [if_neg (by omega)]; exact ret_le (RR.le_refl _)
/-- Who waits for a fence. -/
def fenS (p : Prg) (e : Ent) : Bool := (atS p.ins e.pc).kind == 10
def rdEF : List A → Ent × Prg
  | [.agg r, .c (.rptr l)] => (Row.of r, Prg.of l)
  | _ => default
def c_fen1 : FT (Ent × Prg) := ⟨83, fun x => [aEnt x.1, .c (.rptr x.2.cells)], rdEF, fun _ => True, fun x => rb (fenS x.2 x.1), false, fun x => by simp [aEnt, rdEF]; rfl⟩
noncomputable def a_fen1 : FnA := (fnA Try.prog Try.f83 2 []).getD ⟨0, .skip, [], []⟩
noncomputable def s_fen1 : Sp := spT [c_sAt.gfe v_sAt sh_sAt e_sAt]
theorem s_fen1_sound : s_fen1.sound Try.prog := spT_sound fun e he => by
  simp only [List.mem_cons, List.not_mem_nil, or_false] at he
  rcases he with rfl
  · exact FT.gfe_good c_sAt_good
set_option maxRecDepth 100000 in
theorem t_fen1 (e : Ent) (p : Prg) : a_fen1.start s_fen1 400 [aEnt e, .c (.rptr p.cells)] =
(VC.need (okSh [Kd.int IntKind.i64, Kd.int IntKind.i64, Kd.int IntKind.i64, Kd.int IntKind.i64, Kd.int IntKind.i64, Kd.int IntKind.i64, Kd.int IntKind.i64, Kd.sl, Kd.sl, Kd.sl] (Prg.cells p))
(VC.need (PreOk c_sAt (Prg.of [D.int IntKind.i64 (asInt (D.int IntKind.i64 p.w)), D.int IntKind.i64 (asInt (D.int IntKind.i64 p.window)), D.int IntKind.i64 (asInt (D.int IntKind.i64 p.fuel)), D.int IntKind.i64 (asInt (D.int IntKind.i64 p.r0)), D.int IntKind.i64 (asInt (D.int IntKind.i64 p.r1)), D.int IntKind.i64 (asInt (D.int IntKind.i64 p.r2)), D.int IntKind.i64 (asInt (D.int IntKind.i64 p.r3)), D.sl (asRows (D.sl (rowsOn p.mems))), D.sl (asRows (D.sl (rowsOn p.labels))), D.sl (asRows (D.sl (rowsOn p.ins)))], e.pc) [A.agg [D.int IntKind.i64 (asInt (D.int IntKind.i64 p.w)), D.int IntKind.i64 (asInt (D.int IntKind.i64 p.window)), D.int IntKind.i64 (asInt (D.int IntKind.i64 p.fuel)), D.int IntKind.i64 (asInt (D.int IntKind.i64 p.r0)), D.int IntKind.i64 (asInt (D.int IntKind.i64 p.r1)), D.int IntKind.i64 (asInt (D.int IntKind.i64 p.r2)), D.int IntKind.i64 (asInt (D.int IntKind.i64 p.r3)), D.sl (asRows (D.sl (rowsOn p.mems))), D.sl (asRows (D.sl (rowsOn p.labels))), D.sl (asRows (D.sl (rowsOn p.ins)))], A.c (D.int IntKind.i64 e.pc)])
(VC.all (v_sAt (Prg.of [D.int IntKind.i64 (asInt (D.int IntKind.i64 p.w)), D.int IntKind.i64 (asInt (D.int IntKind.i64 p.window)), D.int IntKind.i64 (asInt (D.int IntKind.i64 p.fuel)), D.int IntKind.i64 (asInt (D.int IntKind.i64 p.r0)), D.int IntKind.i64 (asInt (D.int IntKind.i64 p.r1)), D.int IntKind.i64 (asInt (D.int IntKind.i64 p.r2)), D.int IntKind.i64 (asInt (D.int IntKind.i64 p.r3)), D.sl (asRows (D.sl (rowsOn p.mems))), D.sl (asRows (D.sl (rowsOn p.labels))), D.sl (asRows (D.sl (rowsOn p.ins)))], e.pc)) fun (y2 : Ins) =>
(VC.ret (some (RR.c (Rc.d (D.bool (y2.kind == (10 : Int)))))))))) := by kernel_rfl
theorem ofP (p : Prg) : Prg.of [.int .i64 p.w, .int .i64 p.window, .int .i64 p.fuel, .int .i64 p.r0, .int .i64 p.r1, .int .i64 p.r2, .int .i64 p.r3, .sl (rowsOn p.mems), .sl (rowsOn p.labels), .sl (rowsOn p.ins)] = p := Prg.of_cells p
theorem c_fen1_good : c_fen1.fe.Good Try.prog := by
  refine FT.good c_fen1 ⟨Try.f83, by kernel_rfl, by decide +kernel, by kernel_rfl⟩ (fun ⟨e, p⟩ => by first | rfl | simp [c_fen1, rrRef, rrun, rstep, rins, rnum, rby, rss, rnewI, rnewE, rstab, rplaces, ri, rb, rib, rE, Sta.fresh]) fun ⟨e, p⟩ hp => ?_
  refine acalls_le s_fen1_sound (fn := Try.f83) (a := a_fen1) (nargs := 2) (tbl := []) (by kernel_rfl) (by kernel_rfl) rfl (m := 400) ?_
  show VC.holds _ _ _ (a_fen1.start s_fen1 400 [aEnt e, .c (.rptr p.cells)])
  rw [t_fen1]
  try simp only [asRows_sl, asInt_int, asBool_bool, asStr_str, listOf_rowsOn, List.drop_zero, Prg.eta, Sta.eta, rowsOn_length, getD_drop, Nat.reduceAdd, rd_int, rd_PMem_name, rd_PMem_secret, rd_PMem_n, rd_PLabel_name, rd_PLabel_at_, rd_Ins_kind, rd_Ins_op, rd_Ins_d, rd_Ins_aR, rd_Ins_aN, rd_Ins_bR, rd_Ins_bN, rd_Ins_name, rd_Ins_target, rd_Ent_pc, rd_Ent_val, rd_Ent_addr, rd_Ent_fro, rd_Ent_next, rd_Ent_done, rd_Ent_known, rd_Ent_fault, rd_Place_reg, rd_Place_n, rd_Place_secret, rd_Obs_kind, rd_Obs_at_, rd_Dir_kind, rd_Dir_n, Prg.of_cells, Sta.of_cells]
  try simp only [c_fen1] at hp
  simp only [ofP]
  refine ⟨rfl, PreOk.mk trivial rfl, all_holds fun y hy => ret_le ?_⟩
  subst hy
  exact RR.le_refl _
theorem bkAll_bk : BksOK Try.prog bkAll := bkAll_ok
def aFn (p : Prg) : A := .c (.fn 83 [.rptr p.cells])
def rdLF : List A → List Ent × Prg
  | [.c (.sl l), .c (.fn _ [.rptr q])] => (listOf Ent l, Prg.of q)
  | _ => default
def ixF (p : Prg) (l : List Ent) : Nat → Nat → Int
  | 0, _ => -1
  | m + 1, k => if fenS p (rd l (k : Int)) = true then (k : Int) else ixF p l m (k + 1)
def ixS (p : Prg) (l : List Ent) : Int := ixF p l l.length 0
def c_ixf : FT (List Ent × Prg) := ⟨126, fun x => [aE x.1, aFn x.2], rdLF, fun x => x.1.length ≤ 1000000000, fun x => ri (ixS x.2 x.1), false, fun x => by simp [aE, aFn, rdLF]⟩
noncomputable def a_ixf : FnA := (fnA Try.prog Try.f126 2 [(2, [0, 1, 7, 8])]).getD ⟨0, .skip, [], []⟩
def s_ixf : Sp := spT [c_fen1.fe]
theorem s_ixf_sound : s_ixf.sound Try.prog := spT_sound fun e he => by
  simp only [List.mem_cons, List.not_mem_nil, or_false] at he
  rcases he with rfl
  · exact c_fen1_good
def F_ixf (l : List Ent) (p : Prg) (n i : Int) : St := ⟨mkS 19 [(0, vr (rowsOn l)), (1, .c (.d (.fn 83 [.rptr p.cells]))), (7, vi n), (8, vi i)], []⟩
set_option maxRecDepth 100000 in
theorem t_ixf (l : List Ent) (p : Prg) : a_ixf.start s_ixf 400 [aE l, aFn p] =
(FnA.at_ a_ixf 0 (F_ixf l p (↑(List.length (rowsOn l)) : Int) (0 : Int))) := by kernel_rfl
set_option maxRecDepth 100000 in
theorem t_ixf0 (l : List Ent) (p : Prg) (n i : Int) : a_ixf.round s_ixf 400 0 (F_ixf l p n i) =
(VC.br (decide (i < n))
 (VC.need ((0 : Int) ≤ i ∧ i < (↑(List.length (rowsOn l)) : Int) ∧ List.length (rowAt (rowsOn l) (Int.toNat i)) = (8 : Nat))
 (VC.need (okSh [Kd.int IntKind.i64, Kd.int IntKind.i64, Kd.int IntKind.i64, Kd.int IntKind.i64, Kd.int IntKind.i64, Kd.bool, Kd.bool, Kd.bool] (rowAt (rowsOn l) (Int.toNat i)))
 (VC.need (PreOk c_fen1 (Row.of [D.int IntKind.i64 (asInt (List.getD (rowAt (rowsOn l) (Int.toNat i)) (0 : Nat) D.nilp)), D.int IntKind.i64 (asInt (List.getD (rowAt (rowsOn l) (Int.toNat i)) (1 : Nat) D.nilp)), D.int IntKind.i64 (asInt (List.getD (rowAt (rowsOn l) (Int.toNat i)) (2 : Nat) D.nilp)), D.int IntKind.i64 (asInt (List.getD (rowAt (rowsOn l) (Int.toNat i)) (3 : Nat) D.nilp)), D.int IntKind.i64 (asInt (List.getD (rowAt (rowsOn l) (Int.toNat i)) (4 : Nat) D.nilp)), D.bool (asBool (List.getD (rowAt (rowsOn l) (Int.toNat i)) (5 : Nat) D.nilp)), D.bool (asBool (List.getD (rowAt (rowsOn l) (Int.toNat i)) (6 : Nat) D.nilp)), D.bool (asBool (List.getD (rowAt (rowsOn l) (Int.toNat i)) (7 : Nat) D.nilp))], Prg.of (Prg.cells p)) [A.agg [D.int IntKind.i64 (asInt (List.getD (rowAt (rowsOn l) (Int.toNat i)) (0 : Nat) D.nilp)), D.int IntKind.i64 (asInt (List.getD (rowAt (rowsOn l) (Int.toNat i)) (1 : Nat) D.nilp)), D.int IntKind.i64 (asInt (List.getD (rowAt (rowsOn l) (Int.toNat i)) (2 : Nat) D.nilp)), D.int IntKind.i64 (asInt (List.getD (rowAt (rowsOn l) (Int.toNat i)) (3 : Nat) D.nilp)), D.int IntKind.i64 (asInt (List.getD (rowAt (rowsOn l) (Int.toNat i)) (4 : Nat) D.nilp)), D.bool (asBool (List.getD (rowAt (rowsOn l) (Int.toNat i)) (5 : Nat) D.nilp)), D.bool (asBool (List.getD (rowAt (rowsOn l) (Int.toNat i)) (6 : Nat) D.nilp)), D.bool (asBool (List.getD (rowAt (rowsOn l) (Int.toNat i)) (7 : Nat) D.nilp))], A.c (D.rptr (Prg.cells p))])
 (VC.br (fenS (Prg.of (Prg.cells p)) (Row.of [D.int IntKind.i64 (asInt (List.getD (rowAt (rowsOn l) (Int.toNat i)) (0 : Nat) D.nilp)), D.int IntKind.i64 (asInt (List.getD (rowAt (rowsOn l) (Int.toNat i)) (1 : Nat) D.nilp)), D.int IntKind.i64 (asInt (List.getD (rowAt (rowsOn l) (Int.toNat i)) (2 : Nat) D.nilp)), D.int IntKind.i64 (asInt (List.getD (rowAt (rowsOn l) (Int.toNat i)) (3 : Nat) D.nilp)), D.int IntKind.i64 (asInt (List.getD (rowAt (rowsOn l) (Int.toNat i)) (4 : Nat) D.nilp)), D.bool (asBool (List.getD (rowAt (rowsOn l) (Int.toNat i)) (5 : Nat) D.nilp)), D.bool (asBool (List.getD (rowAt (rowsOn l) (Int.toNat i)) (6 : Nat) D.nilp)), D.bool (asBool (List.getD (rowAt (rowsOn l) (Int.toNat i)) (7 : Nat) D.nilp))]))
  (VC.ret (some (RR.c (Rc.d (D.int IntKind.i64 i)))))
  (FnA.at_ a_ixf 0 (F_ixf l p n (IntKind.wrap IntKind.i64 (i + (1 : Int)))))))))
 (VC.ret (some (RR.c (Rc.d (D.int IntKind.i64 (-1 : Int))))))) := by kernel_rfl
theorem l_ixf0 (l : List Ent) (p : Prg) (hl : l.length ≤ 1000000000) : ∀ i : Int, (fun (i : Int) => 0 ≤ i ∧ i ≤ l.length ∧ ixF p l (l.length - i.toNat) i.toNat = ixS p l) i → (a_ixf.at_ 0 ((fun (i : Int) => F_ixf l p l.length i) i)).holds s_ixf.cx a_ixf.rs (fun r => r.le (ri (ixS p l))) := by
  refine loop_rule (a := a_ixf) (j := 0) (m := 400) s_ixf_sound (fun (i : Int) => F_ixf l p l.length i) (fun (i : Int) => 0 ≤ i ∧ i ≤ l.length ∧ ixF p l (l.length - i.toNat) i.toNat = ixS p l) (fun (i : Int) => ((l.length : Int) - i).toNat) ?_
  rintro i h_inv ih
  try dsimp only at h_inv
  show VC.holds _ _ _ (a_ixf.round s_ixf 400 0 (F_ixf l p l.length i))
  rw [t_ixf0]
  try simp only [asRows_sl, asInt_int, asBool_bool, asStr_str, listOf_rowsOn, List.drop_zero, Prg.eta, Sta.eta, rowsOn_length, getD_drop, Nat.reduceAdd, rd_int, rd_PMem_name, rd_PMem_secret, rd_PMem_n, rd_PLabel_name, rd_PLabel_at_, rd_Ins_kind, rd_Ins_op, rd_Ins_d, rd_Ins_aR, rd_Ins_aN, rd_Ins_bR, rd_Ins_bN, rd_Ins_name, rd_Ins_target, rd_Ent_pc, rd_Ent_val, rd_Ent_addr, rd_Ent_fro, rd_Ent_next, rd_Ent_done, rd_Ent_known, rd_Ent_fault, rd_Place_reg, rd_Place_n, rd_Place_secret, rd_Obs_kind, rd_Obs_at_, rd_Dir_kind, rd_Dir_n, Prg.of_cells, Sta.of_cells]
  obtain ⟨h0, h1, h2⟩ := h_inv
  have w1 : IntKind.wrap .i64 (i + 1) = i + 1 := wrap_small _ (by omega) (by omega)
  simp only [w1]
  have ei : ((i.toNat : Nat) : Int) = i := by omega
  refine br_dec (fun hd => ?_) (fun hd => ?_)
  · obtain ⟨k, hk⟩ : ∃ k, l.length - i.toNat = k + 1 := ⟨l.length - i.toNat - 1, by omega⟩
    rw [hk] at h2
    have hs : ixF p l (k + 1) i.toNat = if fenS p (rd l i) = true then i else ixF p l k (i.toNat + 1) := by
      show (if fenS p (rd l ((i.toNat : Nat) : Int)) = true then ((i.toNat : Nat) : Int) else _) = _
      rw [ei]
    rw [hs] at h2
    refine ⟨⟨h0, hd, by rw [rowAt_on l i h0 hd]; rfl⟩, okSh_ok _ l i (fun _ => rfl) h0 hd, PreOk.mk trivial rfl, br_holds (fun h => ?_) (fun h => ?_)⟩
    · have h : fenS p (rd l i) = true := h
      rw [if_pos h] at h2
      refine ret_le ?_
      rw [← h2]; exact RR.le_refl _
    · have h : fenS p (rd l i) = false := h
      rw [if_neg (by rw [h]; simp)] at h2
      exact ih _ ⟨by omega, by omega, by rw [← h2, show (i + 1).toNat = i.toNat + 1 by omega, show l.length - (i.toNat + 1) = k by omega]⟩ (by omega)
  · rw [show l.length - i.toNat = 0 by omega] at h2
    refine ret_le ?_
    rw [← h2]; exact RR.le_refl _
theorem c_ixf_good : c_ixf.fe.Good Try.prog := by
  refine FT.good c_ixf ⟨Try.f126, by kernel_rfl, by decide +kernel, by kernel_rfl⟩ (fun ⟨l, p⟩ => by first | rfl | simp [c_ixf, rrRef, rrun, rstep, rins, rnum, rby, rss, rnewI, rnewE, rstab, rplaces, ri, rb, rib, rE, Sta.fresh]) fun ⟨l, p⟩ hp => ?_
  refine acalls_le s_ixf_sound (fn := Try.f126) (a := a_ixf) (nargs := 2) (tbl := [(2, [0, 1, 7, 8])]) (by kernel_rfl) (by kernel_rfl) rfl (m := 400) ?_
  show VC.holds _ _ _ (a_ixf.start s_ixf 400 [aE l, aFn p])
  rw [t_ixf]
  try simp only [asRows_sl, asInt_int, asBool_bool, asStr_str, listOf_rowsOn, List.drop_zero, Prg.eta, Sta.eta, rowsOn_length, getD_drop, Nat.reduceAdd, rd_int, rd_PMem_name, rd_PMem_secret, rd_PMem_n, rd_PLabel_name, rd_PLabel_at_, rd_Ins_kind, rd_Ins_op, rd_Ins_d, rd_Ins_aR, rd_Ins_aN, rd_Ins_bR, rd_Ins_bN, rd_Ins_name, rd_Ins_target, rd_Ent_pc, rd_Ent_val, rd_Ent_addr, rd_Ent_fro, rd_Ent_next, rd_Ent_done, rd_Ent_known, rd_Ent_fault, rd_Place_reg, rd_Place_n, rd_Place_secret, rd_Obs_kind, rd_Obs_at_, rd_Dir_kind, rd_Dir_n, Prg.of_cells, Sta.of_cells]
  try simp only [c_ixf] at hp
  exact l_ixf0 l p hp 0 ⟨by omega, by omega, rfl⟩
def c_cof : FT (List Ent × Prg) := ⟨82, fun x => [aE x.1, aFn x.2], rdLF, fun x => x.1.length ≤ 1000000000, fun x => rb (decide (0 ≤ ixS x.2 x.1)), false, fun x => by simp [aE, aFn, rdLF]⟩
noncomputable def a_cof : FnA := (fnA Try.prog Try.f82 2 []).getD ⟨0, .skip, [], []⟩
def s_cof : Sp := spT [c_ixf.fe]
theorem s_cof_sound : s_cof.sound Try.prog := spT_sound fun e he => by
  simp only [List.mem_cons, List.not_mem_nil, or_false] at he
  rcases he with rfl
  · exact c_ixf_good
set_option maxRecDepth 100000 in
theorem t_cof (l : List Ent) (p : Prg) : a_cof.start s_cof 400 [aE l, aFn p] =
(VC.need (PreOk c_ixf (l, Prg.of (Prg.cells p)) [A.c (D.sl (rowsOn l)), A.c (D.fn (83 : Nat) [D.rptr (Prg.cells p)])])
(VC.ret (some (RR.c (Rc.d (D.bool (decide ((0 : Int) ≤ ixS (Prg.of (Prg.cells p)) (listOf Ent (rowsOn l)))))))))) := by kernel_rfl
theorem c_cof_good : c_cof.fe.Good Try.prog := by
  refine FT.good c_cof ⟨Try.f82, by kernel_rfl, by decide +kernel, by kernel_rfl⟩ (fun ⟨l, p⟩ => by first | rfl | simp [c_cof, rrRef, rrun, rstep, rins, rnum, rby, rss, rnewI, rnewE, rstab, rplaces, ri, rb, rib, rE, Sta.fresh]) fun ⟨l, p⟩ hp => ?_
  refine acalls_le s_cof_sound (fn := Try.f82) (a := a_cof) (nargs := 2) (tbl := []) (by kernel_rfl) (by kernel_rfl) rfl (m := 400) ?_
  show VC.holds _ _ _ (a_cof.start s_cof 400 [aE l, aFn p])
  rw [t_cof]
  try simp only [asRows_sl, asInt_int, asBool_bool, asStr_str, listOf_rowsOn, List.drop_zero, Prg.eta, Sta.eta, rowsOn_length, getD_drop, Nat.reduceAdd, rd_int, rd_PMem_name, rd_PMem_secret, rd_PMem_n, rd_PLabel_name, rd_PLabel_at_, rd_Ins_kind, rd_Ins_op, rd_Ins_d, rd_Ins_aR, rd_Ins_aN, rd_Ins_bR, rd_Ins_bN, rd_Ins_name, rd_Ins_target, rd_Ent_pc, rd_Ent_val, rd_Ent_addr, rd_Ent_fro, rd_Ent_next, rd_Ent_done, rd_Ent_known, rd_Ent_fault, rd_Place_reg, rd_Place_n, rd_Place_secret, rd_Obs_kind, rd_Obs_at_, rd_Dir_kind, rd_Dir_n, Prg.of_cells, Sta.of_cells]
  try simp only [c_cof] at hp
  exact ⟨PreOk.mk hp rfl, ret_le (RR.le_refl _)⟩
def rdPEI : List A → Prg × List Ent × Int
  | [.agg q, .c (.sl l), .c (.int _ i)] => (Prg.of q, listOf Ent l, i)
  | _ => default
def c_blk : FT (Prg × List Ent × Int) := ⟨31, fun x => [ap x.1, aE x.2.1, ai x.2.2], rdPEI, fun x => x.2.1.length ≤ 1000000000, fun x => rb (decide (0 ≤ ixS x.1 (cutS x.2.1 x.2.2))), false, fun x => by simp [ap, aE, ai, rdPEI]⟩
noncomputable def a_blk : FnA := (fnA Try.prog Try.f31 3 []).getD ⟨0, .skip, [], []⟩
def s_blk : Sp := spT [c_cut.fe, c_cof.fe]
theorem s_blk_sound : s_blk.sound Try.prog := spT_sound fun e he => by
  simp only [List.mem_cons, List.not_mem_nil, or_false] at he
  rcases he with rfl | rfl
  · exact c_cut_good
  · exact c_cof_good
set_option maxRecDepth 100000 in
theorem t_blk (p : Prg) (l : List Ent) (i : Int) : a_blk.start s_blk 400 [ap p, aE l, ai i] =
(VC.need (PreOk c_cut (l, i) [A.c (D.sl (rowsOn l)), A.c (D.int IntKind.i64 i)])
(VC.need (PreOk c_cof (cutS l i, Prg.of (Prg.cells p)) [A.c (D.sl (rowsOn (cutS (listOf Ent (rowsOn l)) i))), A.c (D.fn (83 : Nat) [D.rptr (Prg.cells p)])])
(VC.ret (some (RR.c (Rc.d (D.bool (decide ((0 : Int) ≤ ixS (Prg.of (Prg.cells p)) (listOf Ent (rowsOn (cutS (listOf Ent (rowsOn l)) i)))))))))))) := by kernel_rfl
theorem c_blk_good : c_blk.fe.Good Try.prog := by
  refine FT.good c_blk ⟨Try.f31, by kernel_rfl, by decide +kernel, by kernel_rfl⟩ (fun ⟨p, l, i⟩ => by first | rfl | simp [c_blk, rrRef, rrun, rstep, rins, rnum, rby, rss, rnewI, rnewE, rstab, rplaces, ri, rb, rib, rE, Sta.fresh]) fun ⟨p, l, i⟩ hp => ?_
  refine acalls_le s_blk_sound (fn := Try.f31) (a := a_blk) (nargs := 3) (tbl := []) (by kernel_rfl) (by kernel_rfl) rfl (m := 400) ?_
  show VC.holds _ _ _ (a_blk.start s_blk 400 [ap p, aE l, ai i])
  rw [t_blk]
  try simp only [asRows_sl, asInt_int, asBool_bool, asStr_str, listOf_rowsOn, List.drop_zero, Prg.eta, Sta.eta, rowsOn_length, getD_drop, Nat.reduceAdd, rd_int, rd_PMem_name, rd_PMem_secret, rd_PMem_n, rd_PLabel_name, rd_PLabel_at_, rd_Ins_kind, rd_Ins_op, rd_Ins_d, rd_Ins_aR, rd_Ins_aN, rd_Ins_bR, rd_Ins_bN, rd_Ins_name, rd_Ins_target, rd_Ent_pc, rd_Ent_val, rd_Ent_addr, rd_Ent_fro, rd_Ent_next, rd_Ent_done, rd_Ent_known, rd_Ent_fault, rd_Place_reg, rd_Place_n, rd_Place_secret, rd_Obs_kind, rd_Obs_at_, rd_Dir_kind, rd_Dir_n, Prg.of_cells, Sta.of_cells]
  try simp only [c_blk] at hp
  have hc := cutS_len l i
  exact ⟨PreOk.mk hp rfl, PreOk.mk (by dsimp only [c_cof] at hp ⊢; omega) rfl, ret_le (RR.le_refl _)⟩
/-- What a register holds, from the last ahead to the first. -/
def regK (p : Prg) (g : Regs) (r : Int) (l : List Ent) : Nat → Int × Bool
  | 0 => (g.get r, true)
  | k + 1 => if (destS (atS p.ins (rd l (k : Int)).pc)).2 = true ∧ (destS (atS p.ins (rd l (k : Int)).pc)).1 = r then (if (rd l (k : Int)).done = true then ((rd l (k : Int)).val, true) else (0, false)) else regK p g r l k
def regS (p : Prg) (g : Regs) (l : List Ent) (i r : Int) : Int × Bool := if r < 0 ∨ 4 ≤ r then (0, false) else regK p g r (cutS l i) (cutS l i).length
def rdReg : List A → Prg × Regs × List Ent × Int × Int
  | [.agg q, .agg [.int _ a, .int _ b, .int _ c, .int _ d], .c (.sl l), .c (.int _ i), .c (.int _ r)] => (Prg.of q, ⟨a, b, c, d⟩, listOf Ent l, i, r)
  | _ => default
def c_reg : FT (Prg × Regs × List Ent × Int × Int) := ⟨28, fun x => [ap x.1, aRegs x.2.1, aE x.2.2.1, ai x.2.2.2.1, ai x.2.2.2.2], rdReg, fun x => x.2.2.1.length ≤ 1000000000, fun x => rib (regS x.1 x.2.1 x.2.2.1 x.2.2.2.1 x.2.2.2.2), false, fun x => by simp [ap, aRegs, aE, ai, rdReg]⟩
def rdE0 : List A → List Ent × Unit
  | [.c (.sl l)] => (listOf Ent l, ())
  | _ => default
def c_bkE : FT (List Ent × Unit) := ⟨80, fun x => [aE x.1], rdE0, fun x => True, fun x => .c (.d (.fn 123 [.rptr [.sl (rowsOn x.1)]])), true, fun x => by simp [aE, rdE0]⟩
noncomputable def a_bkE : FnA := (fnA Try.prog Try.f80 1 []).getD ⟨0, .skip, [], []⟩
def s_bkE : Sp := spT []
theorem s_bkE_sound : s_bkE.sound Try.prog := spT_sound fun e he => by cases he
set_option maxRecDepth 100000 in
theorem t_bkE (l : List Ent) : a_bkE.start s_bkE 400 [aE l] =
(VC.ret (some (RR.c (Rc.d (D.fn (123 : Nat) [D.rptr [D.sl (rowsOn l)]]))))) := by kernel_rfl
theorem c_bkE_good : c_bkE.fe.Good Try.prog := by
  refine FT.good c_bkE ⟨Try.f80, by kernel_rfl, by decide +kernel, by kernel_rfl⟩ (fun ⟨l, u⟩ => by first | rfl | simp [c_bkE, rrRef, rrun, rstep, rins, rnum, rby, rss, rnewI, rnewE, rstab, rplaces, ri, rb, rib, rE, Sta.fresh]) fun ⟨l, u⟩ hp => ?_
  refine acalls_le s_bkE_sound (fn := Try.f80) (a := a_bkE) (nargs := 1) (tbl := []) (by kernel_rfl) (by kernel_rfl) rfl (m := 400) ?_
  show VC.holds _ _ _ (a_bkE.start s_bkE 400 [aE l])
  rw [t_bkE]
  try simp only [asRows_sl, asInt_int, asBool_bool, asStr_str, listOf_rowsOn, List.drop_zero, Prg.eta, Sta.eta, rowsOn_length, getD_drop, Nat.reduceAdd, rd_int, rd_PMem_name, rd_PMem_secret, rd_PMem_n, rd_PLabel_name, rd_PLabel_at_, rd_Ins_kind, rd_Ins_op, rd_Ins_d, rd_Ins_aR, rd_Ins_aN, rd_Ins_bR, rd_Ins_bN, rd_Ins_name, rd_Ins_target, rd_Ent_pc, rd_Ent_val, rd_Ent_addr, rd_Ent_fro, rd_Ent_next, rd_Ent_done, rd_Ent_known, rd_Ent_fault, rd_Place_reg, rd_Place_n, rd_Place_secret, rd_Obs_kind, rd_Obs_at_, rd_Dir_kind, rd_Dir_n, Prg.of_cells, Sta.of_cells]
  try simp only [c_bkE] at hp
  repeat' first
    | refine br_not ?_
    | refine br_dec (fun _ => ?_) (fun _ => ?_)
    | refine br_beq (fun _ => ?_) (fun _ => ?_)
    | refine br_bne (fun _ => ?_) (fun _ => ?_)
    | refine br_holds (fun _ => ?_) (fun _ => ?_)
    | refine ⟨PreOk.mk ?_ rfl, ?_⟩
    | refine ⟨idx_ok _ _ _ rfl (by omega) (by omega), ?_⟩
    | refine ⟨okSh_ok _ _ _ (fun _ => rfl) (by omega) (by omega), ?_⟩
    | refine ⟨okSh_okD _ _ _ _ (fun _ => rfl) (by omega) (by omega), ?_⟩
    | refine ⟨aload_ok _ _ rfl (fun _ => rfl) (by omega) (by omega), ?_⟩
    | refine ⟨aload_okD _ _ _ rfl (fun _ => rfl) (by omega) (by omega), ?_⟩
    | refine ⟨astore_ok (by assumption) rfl (by omega) (by omega) (by decide), ?_⟩
    | refine ⟨app_ok (by assumption) rfl rfl (by simp only [List.length_cons, List.length_nil]; omega), ?_⟩
    | refine need_holds ?_ fun _ => ?_
    | refine all_holds fun y hy => ?_
    | refine ret_le ?_
  exact RR.le_refl _
noncomputable def v_dest : Ins × Unit → Int × Bool := fun x => destS x.1
noncomputable def sh_dest : Int × Bool → RR := fun y => rib y
theorem e_dest (x : Ins × Unit) : sh_dest (v_dest x) = c_dest.ans x := rfl
noncomputable def a_reg : FnA := (fnAT Try.prog [832] Try.f28 5 []).getD ⟨0, .skip, [], []⟩
noncomputable def s_reg : Sp := spT [c_cut.fe, c_dest.gfe v_dest sh_dest e_dest, c_sAt.gfe v_sAt sh_sAt e_sAt, c_bkE.fe] bkAll
theorem s_reg_sound : s_reg.sound Try.prog := spT_sound (hbk := bkAll_bk) fun e he => by
  simp only [List.mem_cons, List.not_mem_nil, or_false] at he
  rcases he with rfl | rfl | rfl | rfl
  · exact c_cut_good
  · exact FT.gfe_good c_dest_good
  · exact FT.gfe_good c_sAt_good
  · exact c_bkE_good
def B_reg (p : Prg) (g : Regs) (r : Int) : St := ⟨[], [(832, ⟨0, false, .dead⟩), (320, bx p.cells), (384, bx [.int .i64 g.r0, .int .i64 g.r1, .int .i64 g.r2, .int .i64 g.r3]), (576, bx [.int .i64 r]), (640, bx [.int .i64 0]), (704, bx [.bool false])]⟩
def F_reg (p : Prg) (g : Regs) (l : List (List D)) (i r : Int) (b c : Bool) (C Z : List (List D)) : St := ⟨mkS 50 [(0, .agg [.d (.int .i64 p.w), .d (.int .i64 p.window), .d (.int .i64 p.fuel), .d (.int .i64 p.r0), .d (.int .i64 p.r1), .d (.int .i64 p.r2), .d (.int .i64 p.r3), .d (.sl (rowsOn p.mems)), .d (.sl (rowsOn p.labels)), .d (.sl (rowsOn p.ins))]), (1, .agg [.d (.int .i64 g.r0), .d (.int .i64 g.r1), .d (.int .i64 g.r2), .d (.int .i64 g.r3)]), (2, vr l), (3, vi i), (4, vi r), (5, vp 320), (6, vp 384), (9, vp 576), (10, vp 640), (11, vp 704), (16, vi r), (17, .c (.d (.bool b))), (18, .c (.d (.bool false))), (19, vi r), (20, .c (.d (.bool c))), (21, .c (.d (.bool false))), (22, vr l), (23, vi i), (24, vr C), (25, .c (.d (.fn 123 [.rptr [.sl Z]])))], [(832, ⟨0, false, .dead⟩), (320, bx p.cells), (384, bx [.int .i64 g.r0, .int .i64 g.r1, .int .i64 g.r2, .int .i64 g.r3]), (576, bx [.int .i64 r]), (640, bx [.int .i64 0]), (704, bx [.bool false])]⟩
set_option maxRecDepth 100000 in
theorem t_reg (p : Prg) (g : Regs) (l : List Ent) (i r : Int) : a_reg.start s_reg 400 [ap p, aRegs g, aE l, ai i, ai r] =
(VC.br (decide (r < (0 : Int)))
 (VC.ret (some (RR.tup [Sum.inl (Rc.d (D.int IntKind.i64 (0 : Int))), Sum.inl (Rc.d (D.bool false))])))
 (VC.br (decide ((4 : Int) ≤ r))
  (VC.ret (some (RR.tup [Sum.inl (Rc.d (D.int IntKind.i64 (0 : Int))), Sum.inl (Rc.d (D.bool false))])))
  (VC.need (PreOk c_cut (l, i) [A.c (D.sl (rowsOn l)), A.c (D.int IntKind.i64 i)])
  (VC.need (PreOk c_bkE (cutS l i, ()) [A.c (D.sl (rowsOn (cutS (listOf Ent (rowsOn l)) i)))])
  (VC.need (okBack (some (8 : Nat)) (rowsOn (listOf Ent (rowsOn (cutS (listOf Ent (rowsOn l)) i)))) = true)
  (FnA.bk a_reg 0 ((some (8 : Nat), [Kd.int IntKind.i64, Kd.int IntKind.i64, Kd.int IntKind.i64, Kd.int IntKind.i64, Kd.int IntKind.i64, Kd.bool, Kd.bool, Kd.bool])) (St.blk (B_reg p g r)) (rowsOn (listOf Ent (rowsOn (cutS (listOf Ent (rowsOn l)) i)))) (List.length (rowsOn (listOf Ent (rowsOn (cutS (listOf Ent (rowsOn l)) i))))) (F_reg p g (rowsOn l) i r (decide (r < (0 : Int))) (decide ((4 : Int) ≤ r)) (rowsOn (cutS (listOf Ent (rowsOn l)) i)) (rowsOn (listOf Ent (rowsOn (cutS (listOf Ent (rowsOn l)) i))))))))))) := by kernel_rfl
set_option maxRecDepth 100000 in
theorem t_reg0 (p : Prg) (g : Regs) (l : List (List D)) (i r : Int) (b c : Bool) (C Z : List (List D)) (L : List Ent) : a_reg.bkround s_reg 400 0 (some 8, kdE) (St.blk (B_reg p g r)) (rowsOn L) 0 (F_reg p g l i r b c C Z) =
(VC.br (decide (r = (0 : Int)))
 (VC.ret (some (RR.tup [Sum.inl (Rc.d (D.int IntKind.i64 g.r0)), Sum.inl (Rc.d (D.bool true))])))
 (VC.br (decide (r = (1 : Int)))
  (VC.ret (some (RR.tup [Sum.inl (Rc.d (D.int IntKind.i64 g.r1)), Sum.inl (Rc.d (D.bool true))])))
  (VC.br (decide (r = (2 : Int)))
   (VC.ret (some (RR.tup [Sum.inl (Rc.d (D.int IntKind.i64 g.r2)), Sum.inl (Rc.d (D.bool true))])))
   (VC.br (decide (r = (3 : Int)))
    (VC.ret (some (RR.tup [Sum.inl (Rc.d (D.int IntKind.i64 g.r3)), Sum.inl (Rc.d (D.bool true))])))
    VC.ff)))) := by kernel_rfl
set_option maxRecDepth 100000 in
theorem t_regS (p : Prg) (g : Regs) (l : List (List D)) (i r : Int) (b c : Bool) (C Z : List (List D)) (L : List Ent) (k : Nat) : a_reg.bkround s_reg 400 0 (some 8, kdE) (St.blk (B_reg p g r)) (rowsOn L) (Nat.succ k) (F_reg p g l i r b c C Z) =
(VC.need (k < List.length (rowsOn L) ∧ okSh [Kd.int IntKind.i64, Kd.int IntKind.i64, Kd.int IntKind.i64, Kd.int IntKind.i64, Kd.int IntKind.i64, Kd.bool, Kd.bool, Kd.bool] (rowAt (rowsOn L) k))
(VC.need (PreOk c_sAt (Prg.of (Prg.cells p), asInt (List.getD (rowAt (rowsOn L) k) (0 : Nat) D.nilp)) [A.agg (Prg.cells p), A.c (D.int IntKind.i64 (asInt (List.getD (rowAt (rowsOn L) k) (0 : Nat) D.nilp)))])
(VC.all (v_sAt (Prg.of (Prg.cells p), asInt (List.getD (rowAt (rowsOn L) k) (0 : Nat) D.nilp))) fun (y11 : Ins) =>
(VC.need (PreOk c_dest (Row.of [D.int IntKind.i64 y11.kind, D.int IntKind.i64 y11.op, D.int IntKind.i64 y11.d, D.bool y11.aR, D.int IntKind.i64 y11.aN, D.bool y11.bR, D.int IntKind.i64 y11.bN, D.str y11.name, D.int IntKind.i64 y11.target], ()) [A.agg [D.int IntKind.i64 y11.kind, D.int IntKind.i64 y11.op, D.int IntKind.i64 y11.d, D.bool y11.aR, D.int IntKind.i64 y11.aN, D.bool y11.bR, D.int IntKind.i64 y11.bN, D.str y11.name, D.int IntKind.i64 y11.target]])
(VC.all (v_dest (Row.of [D.int IntKind.i64 y11.kind, D.int IntKind.i64 y11.op, D.int IntKind.i64 y11.d, D.bool y11.aR, D.int IntKind.i64 y11.aN, D.bool y11.bR, D.int IntKind.i64 y11.bN, D.str y11.name, D.int IntKind.i64 y11.target], ())) fun (y12 : Int × Bool) =>
(VC.br (y12.snd)
 (VC.br (y12.fst == r)
  (VC.br (!asBool (List.getD (rowAt (rowsOn L) k) (5 : Nat) D.nilp))
   (VC.ret (some (RR.tup [Sum.inl (Rc.d (D.int IntKind.i64 (0 : Int))), Sum.inl (Rc.d (D.bool false))])))
   (VC.ret (some (RR.tup [Sum.inl (Rc.d (D.int IntKind.i64 (asInt (List.getD (rowAt (rowsOn L) k) (1 : Nat) D.nilp)))), Sum.inl (Rc.d (D.bool true))]))))
  (FnA.bk a_reg 0 ((some (8 : Nat), [Kd.int IntKind.i64, Kd.int IntKind.i64, Kd.int IntKind.i64, Kd.int IntKind.i64, Kd.int IntKind.i64, Kd.bool, Kd.bool, Kd.bool])) (St.blk (B_reg p g r)) (rowsOn L) (k) (F_reg p g l i r b c C Z)))
 (FnA.bk a_reg 0 ((some (8 : Nat), [Kd.int IntKind.i64, Kd.int IntKind.i64, Kd.int IntKind.i64, Kd.int IntKind.i64, Kd.int IntKind.i64, Kd.bool, Kd.bool, Kd.bool])) (St.blk (B_reg p g r)) (rowsOn L) (k) (F_reg p g l i r b c C Z)))))))) := by kernel_rfl
theorem l_reg (p : Prg) (g : Regs) (l : List (List D)) (i r : Int) (b c : Bool) (C Z : List (List D)) (L : List Ent) (h0 : 0 ≤ r) (h4 : r < 4) : ∀ k : Nat, k ≤ L.length →
    (FnA.bk a_reg 0 (some 8, kdE) (St.blk (B_reg p g r)) (rowsOn L) k (F_reg p g l i r b c C Z)).holds s_reg.cx a_reg.rs fun x => x.le (rib (regK p g r L k)) := by
  intro k
  induction k with
  | zero =>
    intro _
    refine bk_of_round s_reg_sound (m := 400) ?_
    rw [t_reg0]
    unfold regK Regs.get
    refine br_dec (fun e => ?_) (fun e0 => br_dec (fun e => ?_) (fun e1 => br_dec (fun e => ?_) (fun e2 => br_dec (fun e => ?_) (fun e3 => by omega))))
    · rw [if_pos e]; exact ret_le (RR.le_refl _)
    · rw [if_neg e0, if_pos e]; exact ret_le (RR.le_refl _)
    · rw [if_neg e0, if_neg e1, if_pos e]; exact ret_le (RR.le_refl _)
    · rw [if_neg e0, if_neg e1, if_neg e2]; exact ret_le (RR.le_refl _)
  | succ k ih =>
    intro hk
    have ih := ih (by omega)
    refine bk_of_round s_reg_sound (m := 400) ?_
    rw [show k + 1 = Nat.succ k from rfl, t_regS]
    have e0 : asInt (List.getD (rowAt (rowsOn L) k) 0 .nilp) = (rd L (k : Int)).pc := rd_Ent_pc L (k : Int)
    have e1 : asInt (List.getD (rowAt (rowsOn L) k) 1 .nilp) = (rd L (k : Int)).val := rd_Ent_val L (k : Int)
    have e5 : asBool (List.getD (rowAt (rowsOn L) k) 5 .nilp) = (rd L (k : Int)).done := rd_Ent_done L (k : Int)
    rw [e0, e1, e5]
    unfold regK
    simp only [Prg.of_cells]
    refine ⟨⟨by rw [rowsOn_length]; omega, okSh_ok _ L (k : Int) (fun _ => rfl) (by omega) (by omega)⟩, PreOk.mk trivial rfl, all_holds fun y hy => ⟨PreOk.mk trivial rfl, all_holds fun z hz => ?_⟩⟩
    replace hy : y = atS p.ins (rd L (k : Int)).pc := hy
    replace hz : z = destS y := hz
    rw [← hy, ← hz]
    refine br_holds (fun h1 => br_beq (fun h2 => ?_) (fun h2 => ?_)) (fun h1 => ?_)
    · rw [if_pos ⟨h1, h2⟩]
      refine br_not (br_holds (fun h3 => ?_) (fun h3 => ?_))
      · rw [if_pos h3]; exact ret_le (RR.le_refl _)
      · rw [if_neg (by simp [h3])]; exact ret_le (RR.le_refl _)
    · rw [if_neg (fun q => h2 q.2)]; exact ih
    · rw [if_neg (fun q => by rw [h1] at q; cases q.1)]; exact ih
theorem back_okE (l : List Ent) (h : l.length ≤ 1000000000) : okBack (some 8) (rowsOn l) = true := by
  unfold okBack
  rw [Bool.and_eq_true]
  exact ⟨rowsOn_all l 8 rfl, decide_eq_true (by rw [rowsOn_length]; omega)⟩
theorem c_reg_good : c_reg.fe.Good Try.prog := by
  refine FT.good c_reg ⟨Try.f28, by kernel_rfl, by decide +kernel, by kernel_rfl⟩ (fun ⟨p, g, l, i, r⟩ => by first | rfl | simp [c_reg, rrRef, rrun, rstep, rins, rnum, rby, rss, rnewI, rnewE, rstab, rplaces, ri, rb, rib, rE, Sta.fresh]) fun ⟨p, g, l, i, r⟩ hp => ?_
  refine acalls_leT (tags := [832]) s_reg_sound (fn := Try.f28) (a := a_reg) (nargs := 5) (tbl := []) (by kernel_rfl) (by kernel_rfl) rfl (m := 400) ?_
  show VC.holds _ _ _ (a_reg.start s_reg 400 [ap p, aRegs g, aE l, ai i, ai r])
  rw [t_reg]
  try simp only [asRows_sl, asInt_int, asBool_bool, asStr_str, listOf_rowsOn, List.drop_zero, Prg.eta, Sta.eta, rowsOn_length, getD_drop, Nat.reduceAdd, rd_int, rd_PMem_name, rd_PMem_secret, rd_PMem_n, rd_PLabel_name, rd_PLabel_at_, rd_Ins_kind, rd_Ins_op, rd_Ins_d, rd_Ins_aR, rd_Ins_aN, rd_Ins_bR, rd_Ins_bN, rd_Ins_name, rd_Ins_target, rd_Ent_pc, rd_Ent_val, rd_Ent_addr, rd_Ent_fro, rd_Ent_next, rd_Ent_done, rd_Ent_known, rd_Ent_fault, rd_Place_reg, rd_Place_n, rd_Place_secret, rd_Obs_kind, rd_Obs_at_, rd_Dir_kind, rd_Dir_n, Prg.of_cells, Sta.of_cells]
  try simp only [c_reg] at hp
  have hc := cutS_len l i
  have e : c_reg.ans (p, g, l, i, r) = rib (regS p g l i r) := rfl
  rw [e]
  unfold regS
  refine br_dec (fun h => ?_) (fun h0 => br_dec (fun h => ?_) (fun h4 => ?_))
  · rw [if_pos (.inl h)]; exact ret_le (RR.le_refl _)
  · rw [if_pos (.inr h)]; exact ret_le (RR.le_refl _)
  rw [if_neg (by omega)]
  refine ⟨PreOk.mk hp rfl, PreOk.mk trivial rfl, back_okE _ (by have hp : l.length ≤ 1000000000 := hp; omega), ?_⟩
  exact l_reg p g _ i r _ _ _ _ (cutS l i) (by omega) (by omega) _ (Nat.le_refl _)
noncomputable def v_reg : Prg × Regs × List Ent × Int × Int → Int × Bool := fun x => regS x.1 x.2.1 x.2.2.1 x.2.2.2.1 x.2.2.2.2
noncomputable def sh_reg : Int × Bool → RR := fun y => rib y
theorem e_reg (x : Prg × Regs × List Ent × Int × Int) : sh_reg (v_reg x) = c_reg.ans x := rfl
def rdVal : List A → Prg × Regs × List Ent × Int × Bool × Int
  | [.agg q, .agg [.int _ a, .int _ b, .int _ c, .int _ d], .c (.sl l), .c (.int _ i), .agg [.bool r, .int _ n]] => (Prg.of q, ⟨a, b, c, d⟩, listOf Ent l, i, r, n)
  | _ => default
def valS2 (p : Prg) (g : Regs) (l : List Ent) (i : Int) (b : Bool) (n : Int) : Int × Bool := if b then regS p g l i n else (maskS p.w n, true)
def c_rval : FT (Prg × Regs × List Ent × Int × Bool × Int) := ⟨29, fun x => [ap x.1, aRegs x.2.1, aE x.2.2.1, ai x.2.2.2.1, aVal x.2.2.2.2.1 x.2.2.2.2.2], rdVal, fun x => x.2.2.1.length ≤ 1000000000, fun x => rib (valS2 x.1 x.2.1 x.2.2.1 x.2.2.2.1 x.2.2.2.2.1 x.2.2.2.2.2), false, fun x => by simp [ap, aRegs, aE, ai, aVal, rdVal]⟩
noncomputable def a_rval : FnA := (fnA Try.prog Try.f29 5 []).getD ⟨0, .skip, [], []⟩
noncomputable def s_rval : Sp := spT [c_reg.gfe v_reg sh_reg e_reg, c_wMask.fe]
theorem s_rval_sound : s_rval.sound Try.prog := spT_sound fun e he => by
  simp only [List.mem_cons, List.not_mem_nil, or_false] at he
  rcases he with rfl | rfl
  · exact FT.gfe_good c_reg_good
  · exact c_wMask_good
set_option maxRecDepth 100000 in
theorem t_rval (p : Prg) (g : Regs) (l : List Ent) (i : Int) (b : Bool) (n : Int) : a_rval.start s_rval 400 [ap p, aRegs g, aE l, ai i, aVal b n] =
(VC.br (b)
 (VC.need (PreOk c_reg (Prg.of (Prg.cells p), g, l, i, n) [A.agg (Prg.cells p), A.agg [D.int IntKind.i64 g.r0, D.int IntKind.i64 g.r1, D.int IntKind.i64 g.r2, D.int IntKind.i64 g.r3], A.c (D.sl (rowsOn l)), A.c (D.int IntKind.i64 i), A.c (D.int IntKind.i64 n)])
 (VC.all (v_reg (Prg.of (Prg.cells p), { r0 := g.r0, r1 := g.r1, r2 := g.r2, r3 := g.r3 }, listOf Ent (rowsOn l), i, n)) fun (y6 : Int × Bool) =>
 (VC.ret (some (RR.tup [Sum.inl (Rc.d (D.int IntKind.i64 y6.fst)), Sum.inl (Rc.d (D.bool y6.snd))])))))
 (VC.need (PreOk c_wMask (p.w, n) [A.c (D.int IntKind.i64 p.w), A.c (D.int IntKind.i64 n)])
 (VC.ret (some (RR.tup [Sum.inl (Rc.d (D.int IntKind.i64 (maskS p.w n))), Sum.inl (Rc.d (D.bool true))]))))) := by kernel_rfl
theorem c_rval_good : c_rval.fe.Good Try.prog := by
  refine FT.good c_rval ⟨Try.f29, by kernel_rfl, by decide +kernel, by kernel_rfl⟩ (fun ⟨p, g, l, i, b, n⟩ => by first | rfl | simp [c_rval, rrRef, rrun, rstep, rins, rnum, rby, rss, rnewI, rnewE, rstab, rplaces, ri, rb, rib, rE, Sta.fresh]) fun ⟨p, g, l, i, b, n⟩ hp => ?_
  refine acalls_le s_rval_sound (fn := Try.f29) (a := a_rval) (nargs := 5) (tbl := []) (by kernel_rfl) (by kernel_rfl) rfl (m := 400) ?_
  show VC.holds _ _ _ (a_rval.start s_rval 400 [ap p, aRegs g, aE l, ai i, aVal b n])
  rw [t_rval]
  try simp only [asRows_sl, asInt_int, asBool_bool, asStr_str, listOf_rowsOn, List.drop_zero, Prg.eta, Sta.eta, rowsOn_length, getD_drop, Nat.reduceAdd, rd_int, rd_PMem_name, rd_PMem_secret, rd_PMem_n, rd_PLabel_name, rd_PLabel_at_, rd_Ins_kind, rd_Ins_op, rd_Ins_d, rd_Ins_aR, rd_Ins_aN, rd_Ins_bR, rd_Ins_bN, rd_Ins_name, rd_Ins_target, rd_Ent_pc, rd_Ent_val, rd_Ent_addr, rd_Ent_fro, rd_Ent_next, rd_Ent_done, rd_Ent_known, rd_Ent_fault, rd_Place_reg, rd_Place_n, rd_Place_secret, rd_Obs_kind, rd_Obs_at_, rd_Dir_kind, rd_Dir_n, Prg.of_cells, Sta.of_cells]
  try simp only [c_rval] at hp
  have e : c_rval.ans (p, g, l, i, b, n) = rib (valS2 p g l i b n) := rfl
  rw [e]
  unfold valS2
  refine br_holds (fun h => ?_) (fun h => ?_)
  · rw [if_pos h]
    refine ⟨PreOk.mk hp rfl, all_holds fun y hy => ret_le ?_⟩
    subst hy
    exact RR.le_refl _
  · rw [if_neg (by rw [h]; simp)]
    exact ⟨PreOk.mk trivial rfl, ret_le (RR.le_refl _)⟩
noncomputable def v_rval : Prg × Regs × List Ent × Int × Bool × Int → Int × Bool := fun x => valS2 x.1 x.2.1 x.2.2.1 x.2.2.2.1 x.2.2.2.2.1 x.2.2.2.2.2
noncomputable def sh_rval : Int × Bool → RR := fun y => rib y
theorem e_rval (x : Prg × Regs × List Ent × Int × Bool × Int) : sh_rval (v_rval x) = c_rval.ans x := rfl
end Go.Proofs.Ytclabjihjopclaa.Ax
end

section
/- The statement ResoLast. -/
namespace Go.Proofs.Ytclabjihjopclaa.Ax
open Go.RowKit
set_option linter.unusedVariables false
set_option linter.unusedSimpArgs false
def rdRL : List A → List Int × Int × List Int × Int × Int
  | [.c (.sl l), .c (.int _ a), .c (.sl m), .c (.int _ b), .c (.int _ c)] => (listOf Int l, a, listOf Int m, b, c)
  | _ => default
def c_lLast : FT (List Int × Int × List Int × Int × Int) := ⟨4, fun x => [al x.1, ai x.2.1, al x.2.2.1, ai x.2.2.2.1, ai x.2.2.2.2], rdRL, fun _ => True, fun x => rb true, false, fun x => by simp [al, ai, rdRL]⟩
noncomputable def a_lLast : FnA := (fnA Try.prog Try.f4 5 [(3, [0, 1, 2, 3, 4, 11, 12, 3000704009000900001009]), (8, [0, 1, 2, 3, 4, 11, 13, 14, 3000704009000900001009, 1000013000000900002008]), (18, [3, 4, 11, 13, 16, 17, 18, 3000704009000900001009, 1000013000000900002008])]).getD ⟨0, .skip, [], []⟩
noncomputable def s_lLast : Sp := spT [c_reg.gfe v_reg sh_reg e_reg, c_rval.gfe v_rval sh_rval e_rval, c_awake10.fe]
theorem s_lLast_sound : s_lLast.sound Try.prog := spT_sound fun e he => by
  simp only [List.mem_cons, List.not_mem_nil, or_false] at he
  rcases he with rfl | rfl | rfl
  · exact FT.gfe_good c_reg_good
  · exact FT.gfe_good c_rval_good
  · exact c_awake10_good
def F_rl0 (regs : List Int) (done : Int) (vals : List Int) (r at_ : Int) (m : Nat) (I : List (List D)) (i : Int) : St := ⟨mkS 187 [(0, vr (rowsOn regs)), (1, vi done), (2, vr (rowsOn vals)), (3, vi r), (4, vi at_), (11, vp 704), (12, vi i)], [(704, bc [.d (.int .i64 8), .d (.int .i64 6), .d (.int .i64 0), .d (.int .i64 0), .d (.int .i64 0), .d (.int .i64 0), .d (.int .i64 0), .nil, .nil, .own 900001 1 m]), (900001, ba 9 I)]⟩
def F_rl1 (regs : List Int) (done : Int) (vals : List Int) (r at_ : Int) (m : Nat) (I : List (List D)) (e : Nat) (E : List (List D)) (i : Int) : St := ⟨mkS 187 [(0, vr (rowsOn regs)), (1, vi done), (2, vr (rowsOn vals)), (3, vi r), (4, vi at_), (11, vp 704), (13, vo 900002 e), (14, vi i)], [(704, bc [.d (.int .i64 8), .d (.int .i64 6), .d (.int .i64 0), .d (.int .i64 0), .d (.int .i64 0), .d (.int .i64 0), .d (.int .i64 0), .nil, .nil, .own 900001 1 m]), (900001, ba 9 I), (900002, ba 8 E)]⟩
def F_rl2 (r at_ : Int) (m : Nat) (I : List (List D)) (e : Nat) (E : List (List D)) (last i : Int) : St := ⟨mkS 187 [(3, vi r), (4, vi at_), (11, vp 704), (13, vo 900002 e), (16, vp 1024), (17, vi last), (18, vi i)], [(704, bc [.d (.int .i64 8), .d (.int .i64 6), .d (.int .i64 0), .d (.int .i64 0), .d (.int .i64 0), .d (.int .i64 0), .d (.int .i64 0), .nil, .nil, .own 900001 1 m]), (1024, bx [.int .i64 11, .int .i64 12, .int .i64 13, .int .i64 14]), (900001, ba 9 I), (900002, ba 8 E)]⟩
set_option maxRecDepth 100000 in
theorem t_lLast (regs : List Int) (done : Int) (vals : List Int) (r at_ : Int) : a_lLast.start s_lLast 400 [al regs, ai done, al vals, ai r, ai at_] =
(FnA.at_ a_lLast 0 (F_rl0 regs done vals r at_ (0 : Nat) [] (0 : Int))) := by kernel_rfl
set_option maxRecDepth 100000 in
theorem t_rl0 (regs : List Int) (done : Int) (vals : List Int) (r at_ : Int) (m : Nat) (I : List (List D)) (i : Int) : a_lLast.round s_lLast 400 0 (F_rl0 regs done vals r at_ m I i) =
(VC.br (decide (i < (4 : Int)))
 (VC.need ((List.all [[D.int IntKind.i64 (1 : Int), D.int IntKind.i64 (1 : Int), D.int IntKind.i64 i, D.bool false, D.int IntKind.i64 (0 : Int), D.bool false, D.int IntKind.i64 (0 : Int), D.str { data := #[] }, D.int IntKind.i64 (0 : Int)]] fun r ↦ List.length r == (9 : Nat)) = true ∧ (List.all I fun r ↦ List.length r == (9 : Nat)) = true ∧ (List.length I + List.length [[D.int IntKind.i64 (1 : Int), D.int IntKind.i64 (1 : Int), D.int IntKind.i64 i, D.bool false, D.int IntKind.i64 (0 : Int), D.bool false, D.int IntKind.i64 (0 : Int), D.str { data := #[] }, D.int IntKind.i64 (0 : Int)]] + (100 : Nat)) * (81 : Nat) ≤ (70368744177664 : Nat))
 (FnA.at_ a_lLast 0 (F_rl0 regs done vals r at_ (List.length I + List.length [[D.int IntKind.i64 (1 : Int), D.int IntKind.i64 (1 : Int), D.int IntKind.i64 i, D.bool false, D.int IntKind.i64 (0 : Int), D.bool false, D.int IntKind.i64 (0 : Int), D.str { data := #[] }, D.int IntKind.i64 (0 : Int)]]) (I ++ [[D.int IntKind.i64 (1 : Int), D.int IntKind.i64 (1 : Int), D.int IntKind.i64 i, D.bool false, D.int IntKind.i64 (0 : Int), D.bool false, D.int IntKind.i64 (0 : Int), D.str { data := #[] }, D.int IntKind.i64 (0 : Int)]]) (IntKind.wrap IntKind.i64 (i + (1 : Int))))))
 (FnA.at_ a_lLast 1 (F_rl1 regs done vals r at_ m I (0 : Nat) [] (0 : Int)))) := by kernel_rfl
set_option maxRecDepth 100000 in
theorem t_rl1 (regs : List Int) (done : Int) (vals : List Int) (r at_ : Int) (m : Nat) (I : List (List D)) (e : Nat) (E : List (List D)) (i : Int) : a_lLast.round s_lLast 400 1 (F_rl1 regs done vals r at_ m I e E i) =
(VC.br (decide (i < (↑(List.length (rowsOn regs)) : Int)))
 (VC.br (decide (i < (12 : Int)))
  (VC.need ((0 : Int) ≤ i ∧ i < (↑(List.length (rowsOn regs)) : Int) ∧ List.length (rowAt (rowsOn regs) (Int.toNat i)) = (1 : Nat))
  (VC.need (okSh [Kd.int IntKind.i64] (rowAt (rowsOn regs) (Int.toNat i)))
  (VC.need ((0 : Int) ≤ IntKind.wrap IntKind.u64 i)
  (VC.br (decide (i < (↑(List.length (rowsOn vals)) : Int)))
   (VC.need ((0 : Int) ≤ i ∧ i < (↑(List.length (rowsOn vals)) : Int) ∧ List.length (rowAt (rowsOn vals) (Int.toNat i)) = (1 : Nat))
   (VC.need (okSh [Kd.int IntKind.i64] (rowAt (rowsOn vals) (Int.toNat i)))
   (VC.need ((List.all [[D.int IntKind.i64 (bits BinOp.and IntKind.i64 (asInt (List.getD (rowAt (rowsOn regs) (Int.toNat i)) (0 : Nat) D.nilp)) (3 : Int)), D.int IntKind.i64 (bits BinOp.and IntKind.i64 (asInt (List.getD (rowAt (rowsOn vals) (Int.toNat i)) (0 : Nat) D.nilp)) (255 : Int)), D.int IntKind.i64 (0 : Int), D.int IntKind.i64 (0 : Int), D.int IntKind.i64 (0 : Int), D.bool (bits BinOp.and IntKind.i64 (Int.fdiv done ((2 : Int) ^ min (Int.toNat (IntKind.wrap IntKind.u64 i)) (64 : Nat))) (1 : Int) == (1 : Int)), D.bool false, D.bool false]] fun r ↦ List.length r == (8 : Nat)) = true ∧ (List.all E fun r ↦ List.length r == (8 : Nat)) = true ∧ (List.length E + List.length [[D.int IntKind.i64 (bits BinOp.and IntKind.i64 (asInt (List.getD (rowAt (rowsOn regs) (Int.toNat i)) (0 : Nat) D.nilp)) (3 : Int)), D.int IntKind.i64 (bits BinOp.and IntKind.i64 (asInt (List.getD (rowAt (rowsOn vals) (Int.toNat i)) (0 : Nat) D.nilp)) (255 : Int)), D.int IntKind.i64 (0 : Int), D.int IntKind.i64 (0 : Int), D.int IntKind.i64 (0 : Int), D.bool (bits BinOp.and IntKind.i64 (Int.fdiv done ((2 : Int) ^ min (Int.toNat (IntKind.wrap IntKind.u64 i)) (64 : Nat))) (1 : Int) == (1 : Int)), D.bool false, D.bool false]] + (100 : Nat)) * (49 : Nat) ≤ (70368744177664 : Nat))
   (FnA.at_ a_lLast 1 (F_rl1 regs done vals r at_ m I (List.length E + List.length [[D.int IntKind.i64 (bits BinOp.and IntKind.i64 (asInt (List.getD (rowAt (rowsOn regs) (Int.toNat i)) (0 : Nat) D.nilp)) (3 : Int)), D.int IntKind.i64 (bits BinOp.and IntKind.i64 (asInt (List.getD (rowAt (rowsOn vals) (Int.toNat i)) (0 : Nat) D.nilp)) (255 : Int)), D.int IntKind.i64 (0 : Int), D.int IntKind.i64 (0 : Int), D.int IntKind.i64 (0 : Int), D.bool (bits BinOp.and IntKind.i64 (Int.fdiv done ((2 : Int) ^ min (Int.toNat (IntKind.wrap IntKind.u64 i)) (64 : Nat))) (1 : Int) == (1 : Int)), D.bool false, D.bool false]]) (E ++ [[D.int IntKind.i64 (bits BinOp.and IntKind.i64 (asInt (List.getD (rowAt (rowsOn regs) (Int.toNat i)) (0 : Nat) D.nilp)) (3 : Int)), D.int IntKind.i64 (bits BinOp.and IntKind.i64 (asInt (List.getD (rowAt (rowsOn vals) (Int.toNat i)) (0 : Nat) D.nilp)) (255 : Int)), D.int IntKind.i64 (0 : Int), D.int IntKind.i64 (0 : Int), D.int IntKind.i64 (0 : Int), D.bool (bits BinOp.and IntKind.i64 (Int.fdiv done ((2 : Int) ^ min (Int.toNat (IntKind.wrap IntKind.u64 i)) (64 : Nat))) (1 : Int) == (1 : Int)), D.bool false, D.bool false]]) (IntKind.wrap IntKind.i64 (i + (1 : Int))))))))
   (VC.need ((List.all [[D.int IntKind.i64 (bits BinOp.and IntKind.i64 (asInt (List.getD (rowAt (rowsOn regs) (Int.toNat i)) (0 : Nat) D.nilp)) (3 : Int)), D.int IntKind.i64 (0 : Int), D.int IntKind.i64 (0 : Int), D.int IntKind.i64 (0 : Int), D.int IntKind.i64 (0 : Int), D.bool (bits BinOp.and IntKind.i64 (Int.fdiv done ((2 : Int) ^ min (Int.toNat (IntKind.wrap IntKind.u64 i)) (64 : Nat))) (1 : Int) == (1 : Int)), D.bool false, D.bool false]] fun r ↦ List.length r == (8 : Nat)) = true ∧ (List.all E fun r ↦ List.length r == (8 : Nat)) = true ∧ (List.length E + List.length [[D.int IntKind.i64 (bits BinOp.and IntKind.i64 (asInt (List.getD (rowAt (rowsOn regs) (Int.toNat i)) (0 : Nat) D.nilp)) (3 : Int)), D.int IntKind.i64 (0 : Int), D.int IntKind.i64 (0 : Int), D.int IntKind.i64 (0 : Int), D.int IntKind.i64 (0 : Int), D.bool (bits BinOp.and IntKind.i64 (Int.fdiv done ((2 : Int) ^ min (Int.toNat (IntKind.wrap IntKind.u64 i)) (64 : Nat))) (1 : Int) == (1 : Int)), D.bool false, D.bool false]] + (100 : Nat)) * (49 : Nat) ≤ (70368744177664 : Nat))
   (FnA.at_ a_lLast 1 (F_rl1 regs done vals r at_ m I (List.length E + List.length [[D.int IntKind.i64 (bits BinOp.and IntKind.i64 (asInt (List.getD (rowAt (rowsOn regs) (Int.toNat i)) (0 : Nat) D.nilp)) (3 : Int)), D.int IntKind.i64 (0 : Int), D.int IntKind.i64 (0 : Int), D.int IntKind.i64 (0 : Int), D.int IntKind.i64 (0 : Int), D.bool (bits BinOp.and IntKind.i64 (Int.fdiv done ((2 : Int) ^ min (Int.toNat (IntKind.wrap IntKind.u64 i)) (64 : Nat))) (1 : Int) == (1 : Int)), D.bool false, D.bool false]]) (E ++ [[D.int IntKind.i64 (bits BinOp.and IntKind.i64 (asInt (List.getD (rowAt (rowsOn regs) (Int.toNat i)) (0 : Nat) D.nilp)) (3 : Int)), D.int IntKind.i64 (0 : Int), D.int IntKind.i64 (0 : Int), D.int IntKind.i64 (0 : Int), D.int IntKind.i64 (0 : Int), D.bool (bits BinOp.and IntKind.i64 (Int.fdiv done ((2 : Int) ^ min (Int.toNat (IntKind.wrap IntKind.u64 i)) (64 : Nat))) (1 : Int) == (1 : Int)), D.bool false, D.bool false]]) (IntKind.wrap IntKind.i64 (i + (1 : Int))))))))))
  (FnA.at_ a_lLast 2 (F_rl2 (bits BinOp.and IntKind.i64 r (3 : Int)) (bits BinOp.and IntKind.i64 at_ (15 : Int)) m I e E (-1 : Int) (0 : Int))))
 (FnA.at_ a_lLast 2 (F_rl2 (bits BinOp.and IntKind.i64 r (3 : Int)) (bits BinOp.and IntKind.i64 at_ (15 : Int)) m I e E (-1 : Int) (0 : Int)))) := by kernel_rfl
set_option maxRecDepth 100000 in
theorem t_rl2 (r at_ : Int) (m : Nat) (I : List (List D)) (e : Nat) (E : List (List D)) (last i : Int) : a_lLast.round s_lLast 400 2 (F_rl2 r at_ m I e E last i) =
(VC.br (decide (i < at_))
 (VC.br (decide (i < (↑e : Int)))
  (VC.need ((0 : Int) ≤ i ∧ i < (↑e : Int))
  (VC.need (Int.toNat i < List.length E ∧ List.length (rowAt E (Int.toNat i)) = (8 : Nat) ∧ okSh [Kd.int IntKind.i64] (List.drop (0 : Nat) (rowAt E (Int.toNat i))))
  (VC.br (asInt (List.getD (List.drop (0 : Nat) (rowAt E (Int.toNat i))) (0 : Nat) D.nilp) == r)
   (FnA.at_ a_lLast 2 (F_rl2 r at_ m I e E i (IntKind.wrap IntKind.i64 (i + (1 : Int)))))
   (FnA.at_ a_lLast 2 (F_rl2 r at_ m I e E last (IntKind.wrap IntKind.i64 (i + (1 : Int))))))))
  (VC.need (PreOk c_reg (Prg.of [D.int IntKind.i64 (8 : Int), D.int IntKind.i64 (6 : Int), D.int IntKind.i64 (0 : Int), D.int IntKind.i64 (0 : Int), D.int IntKind.i64 (0 : Int), D.int IntKind.i64 (0 : Int), D.int IntKind.i64 (0 : Int), D.sl [], D.sl [], D.sl I], { r0 := (11 : Int), r1 := (12 : Int), r2 := (13 : Int), r3 := (14 : Int) }, listOf Ent E, at_, r) [A.agg [D.int IntKind.i64 (8 : Int), D.int IntKind.i64 (6 : Int), D.int IntKind.i64 (0 : Int), D.int IntKind.i64 (0 : Int), D.int IntKind.i64 (0 : Int), D.int IntKind.i64 (0 : Int), D.int IntKind.i64 (0 : Int), D.sl [], D.sl [], D.sl I], A.agg [D.int IntKind.i64 (11 : Int), D.int IntKind.i64 (12 : Int), D.int IntKind.i64 (13 : Int), D.int IntKind.i64 (14 : Int)], A.c (D.sl E), A.c (D.int IntKind.i64 at_), A.c (D.int IntKind.i64 r)])
  (VC.all (v_reg (Prg.of [D.int IntKind.i64 (8 : Int), D.int IntKind.i64 (6 : Int), D.int IntKind.i64 (0 : Int), D.int IntKind.i64 (0 : Int), D.int IntKind.i64 (0 : Int), D.int IntKind.i64 (0 : Int), D.int IntKind.i64 (0 : Int), D.sl [], D.sl [], D.sl I], { r0 := (11 : Int), r1 := (12 : Int), r2 := (13 : Int), r3 := (14 : Int) }, listOf Ent E, at_, r)) fun (y8 : Int × Bool) =>
  (VC.need (PreOk c_rval (Prg.of [D.int IntKind.i64 (8 : Int), D.int IntKind.i64 (6 : Int), D.int IntKind.i64 (0 : Int), D.int IntKind.i64 (0 : Int), D.int IntKind.i64 (0 : Int), D.int IntKind.i64 (0 : Int), D.int IntKind.i64 (0 : Int), D.sl [], D.sl [], D.sl I], { r0 := (11 : Int), r1 := (12 : Int), r2 := (13 : Int), r3 := (14 : Int) }, listOf Ent E, at_, true, r) [A.agg [D.int IntKind.i64 (8 : Int), D.int IntKind.i64 (6 : Int), D.int IntKind.i64 (0 : Int), D.int IntKind.i64 (0 : Int), D.int IntKind.i64 (0 : Int), D.int IntKind.i64 (0 : Int), D.int IntKind.i64 (0 : Int), D.sl [], D.sl [], D.sl I], A.agg [D.int IntKind.i64 (11 : Int), D.int IntKind.i64 (12 : Int), D.int IntKind.i64 (13 : Int), D.int IntKind.i64 (14 : Int)], A.c (D.sl E), A.c (D.int IntKind.i64 at_), A.agg [D.bool true, D.int IntKind.i64 r]])
  (VC.all (v_rval (Prg.of [D.int IntKind.i64 (8 : Int), D.int IntKind.i64 (6 : Int), D.int IntKind.i64 (0 : Int), D.int IntKind.i64 (0 : Int), D.int IntKind.i64 (0 : Int), D.int IntKind.i64 (0 : Int), D.int IntKind.i64 (0 : Int), D.sl [], D.sl [], D.sl I], { r0 := (11 : Int), r1 := (12 : Int), r2 := (13 : Int), r3 := (14 : Int) }, listOf Ent E, at_, true, r)) fun (y9 : Int × Bool) =>
  (VC.need (PreOk c_rval (Prg.of [D.int IntKind.i64 (8 : Int), D.int IntKind.i64 (6 : Int), D.int IntKind.i64 (0 : Int), D.int IntKind.i64 (0 : Int), D.int IntKind.i64 (0 : Int), D.int IntKind.i64 (0 : Int), D.int IntKind.i64 (0 : Int), D.sl [], D.sl [], D.sl I], { r0 := (11 : Int), r1 := (12 : Int), r2 := (13 : Int), r3 := (14 : Int) }, listOf Ent E, at_, false, IntKind.wrap IntKind.i64 ((300 : Int) + r)) [A.agg [D.int IntKind.i64 (8 : Int), D.int IntKind.i64 (6 : Int), D.int IntKind.i64 (0 : Int), D.int IntKind.i64 (0 : Int), D.int IntKind.i64 (0 : Int), D.int IntKind.i64 (0 : Int), D.int IntKind.i64 (0 : Int), D.sl [], D.sl [], D.sl I], A.agg [D.int IntKind.i64 (11 : Int), D.int IntKind.i64 (12 : Int), D.int IntKind.i64 (13 : Int), D.int IntKind.i64 (14 : Int)], A.c (D.sl E), A.c (D.int IntKind.i64 at_), A.agg [D.bool false, D.int IntKind.i64 (IntKind.wrap IntKind.i64 ((300 : Int) + r))]])
  (VC.all ((maskS (8 : Int) (IntKind.wrap IntKind.i64 ((300 : Int) + r)), true)) fun (y10 : Int × Bool) =>
  (VC.br (y8.fst != y9.fst)
   (VC.ret (some (RR.c (Rc.d (D.bool false)))))
   (VC.br (if true = true then !y8.snd == y9.snd else y8.snd == y9.snd)
    (VC.ret (some (RR.c (Rc.d (D.bool false)))))
    (VC.br (!y10.snd)
     (VC.ret (some (RR.c (Rc.d (D.bool false)))))
     (VC.br (y10.fst != IntKind.wrap IntKind.i64 ((44 : Int) + r))
      (VC.ret (some (RR.c (Rc.d (D.bool false)))))
      (VC.br (decide (last < (0 : Int)))
       (VC.br (y8.snd)
        (VC.br (y8.fst == IntKind.wrap IntKind.i64 ((11 : Int) + r))
         (VC.need (PreOk c_awake10 PUnit.unit [])
         (VC.ret (some (RR.c (Rc.d (D.bool true))))))
         (VC.ret (some (RR.c (Rc.d (D.bool false))))))
        (VC.ret (some (RR.c (Rc.d (D.bool false))))))
       (VC.need ((0 : Int) ≤ last ∧ last < (↑e : Int))
       (VC.need (Int.toNat last < List.length E ∧ List.length (rowAt E (Int.toNat last)) = (8 : Nat) ∧ okSh [Kd.bool] (List.drop (5 : Nat) (rowAt E (Int.toNat last))))
       (VC.br (if false = true then !y8.snd == asBool (List.getD (List.drop (5 : Nat) (rowAt E (Int.toNat last))) (0 : Nat) D.nilp) else y8.snd == asBool (List.getD (List.drop (5 : Nat) (rowAt E (Int.toNat last))) (0 : Nat) D.nilp))
        (VC.br (!y8.snd)
         (VC.br (y8.fst == (0 : Int))
          (VC.need (PreOk c_awake10 PUnit.unit [])
          (VC.ret (some (RR.c (Rc.d (D.bool true))))))
          (VC.br (y8.snd)
           (VC.need ((0 : Int) ≤ last ∧ last < (↑e : Int))
           (VC.need (Int.toNat last < List.length E ∧ List.length (rowAt E (Int.toNat last)) = (8 : Nat) ∧ okSh [Kd.int IntKind.i64] (List.drop (1 : Nat) (rowAt E (Int.toNat last))))
           (VC.br (y8.fst == asInt (List.getD (List.drop (1 : Nat) (rowAt E (Int.toNat last))) (0 : Nat) D.nilp))
            (VC.need (PreOk c_awake10 PUnit.unit [])
            (VC.ret (some (RR.c (Rc.d (D.bool true))))))
            (VC.ret (some (RR.c (Rc.d (D.bool false))))))))
           (VC.ret (some (RR.c (Rc.d (D.bool false)))))))
         (VC.br (y8.snd)
          (VC.need ((0 : Int) ≤ last ∧ last < (↑e : Int))
          (VC.need (Int.toNat last < List.length E ∧ List.length (rowAt E (Int.toNat last)) = (8 : Nat) ∧ okSh [Kd.int IntKind.i64] (List.drop (1 : Nat) (rowAt E (Int.toNat last))))
          (VC.br (y8.fst == asInt (List.getD (List.drop (1 : Nat) (rowAt E (Int.toNat last))) (0 : Nat) D.nilp))
           (VC.need (PreOk c_awake10 PUnit.unit [])
           (VC.ret (some (RR.c (Rc.d (D.bool true))))))
           (VC.ret (some (RR.c (Rc.d (D.bool false))))))))
          (VC.ret (some (RR.c (Rc.d (D.bool false)))))))
        (VC.ret (some (RR.c (Rc.d (D.bool false))))))))))))))))))))
 (VC.need (PreOk c_reg (Prg.of [D.int IntKind.i64 (8 : Int), D.int IntKind.i64 (6 : Int), D.int IntKind.i64 (0 : Int), D.int IntKind.i64 (0 : Int), D.int IntKind.i64 (0 : Int), D.int IntKind.i64 (0 : Int), D.int IntKind.i64 (0 : Int), D.sl [], D.sl [], D.sl I], { r0 := (11 : Int), r1 := (12 : Int), r2 := (13 : Int), r3 := (14 : Int) }, listOf Ent E, at_, r) [A.agg [D.int IntKind.i64 (8 : Int), D.int IntKind.i64 (6 : Int), D.int IntKind.i64 (0 : Int), D.int IntKind.i64 (0 : Int), D.int IntKind.i64 (0 : Int), D.int IntKind.i64 (0 : Int), D.int IntKind.i64 (0 : Int), D.sl [], D.sl [], D.sl I], A.agg [D.int IntKind.i64 (11 : Int), D.int IntKind.i64 (12 : Int), D.int IntKind.i64 (13 : Int), D.int IntKind.i64 (14 : Int)], A.c (D.sl E), A.c (D.int IntKind.i64 at_), A.c (D.int IntKind.i64 r)])
 (VC.all (v_reg (Prg.of [D.int IntKind.i64 (8 : Int), D.int IntKind.i64 (6 : Int), D.int IntKind.i64 (0 : Int), D.int IntKind.i64 (0 : Int), D.int IntKind.i64 (0 : Int), D.int IntKind.i64 (0 : Int), D.int IntKind.i64 (0 : Int), D.sl [], D.sl [], D.sl I], { r0 := (11 : Int), r1 := (12 : Int), r2 := (13 : Int), r3 := (14 : Int) }, listOf Ent E, at_, r)) fun (y8 : Int × Bool) =>
 (VC.need (PreOk c_rval (Prg.of [D.int IntKind.i64 (8 : Int), D.int IntKind.i64 (6 : Int), D.int IntKind.i64 (0 : Int), D.int IntKind.i64 (0 : Int), D.int IntKind.i64 (0 : Int), D.int IntKind.i64 (0 : Int), D.int IntKind.i64 (0 : Int), D.sl [], D.sl [], D.sl I], { r0 := (11 : Int), r1 := (12 : Int), r2 := (13 : Int), r3 := (14 : Int) }, listOf Ent E, at_, true, r) [A.agg [D.int IntKind.i64 (8 : Int), D.int IntKind.i64 (6 : Int), D.int IntKind.i64 (0 : Int), D.int IntKind.i64 (0 : Int), D.int IntKind.i64 (0 : Int), D.int IntKind.i64 (0 : Int), D.int IntKind.i64 (0 : Int), D.sl [], D.sl [], D.sl I], A.agg [D.int IntKind.i64 (11 : Int), D.int IntKind.i64 (12 : Int), D.int IntKind.i64 (13 : Int), D.int IntKind.i64 (14 : Int)], A.c (D.sl E), A.c (D.int IntKind.i64 at_), A.agg [D.bool true, D.int IntKind.i64 r]])
 (VC.all (v_rval (Prg.of [D.int IntKind.i64 (8 : Int), D.int IntKind.i64 (6 : Int), D.int IntKind.i64 (0 : Int), D.int IntKind.i64 (0 : Int), D.int IntKind.i64 (0 : Int), D.int IntKind.i64 (0 : Int), D.int IntKind.i64 (0 : Int), D.sl [], D.sl [], D.sl I], { r0 := (11 : Int), r1 := (12 : Int), r2 := (13 : Int), r3 := (14 : Int) }, listOf Ent E, at_, true, r)) fun (y9 : Int × Bool) =>
 (VC.need (PreOk c_rval (Prg.of [D.int IntKind.i64 (8 : Int), D.int IntKind.i64 (6 : Int), D.int IntKind.i64 (0 : Int), D.int IntKind.i64 (0 : Int), D.int IntKind.i64 (0 : Int), D.int IntKind.i64 (0 : Int), D.int IntKind.i64 (0 : Int), D.sl [], D.sl [], D.sl I], { r0 := (11 : Int), r1 := (12 : Int), r2 := (13 : Int), r3 := (14 : Int) }, listOf Ent E, at_, false, IntKind.wrap IntKind.i64 ((300 : Int) + r)) [A.agg [D.int IntKind.i64 (8 : Int), D.int IntKind.i64 (6 : Int), D.int IntKind.i64 (0 : Int), D.int IntKind.i64 (0 : Int), D.int IntKind.i64 (0 : Int), D.int IntKind.i64 (0 : Int), D.int IntKind.i64 (0 : Int), D.sl [], D.sl [], D.sl I], A.agg [D.int IntKind.i64 (11 : Int), D.int IntKind.i64 (12 : Int), D.int IntKind.i64 (13 : Int), D.int IntKind.i64 (14 : Int)], A.c (D.sl E), A.c (D.int IntKind.i64 at_), A.agg [D.bool false, D.int IntKind.i64 (IntKind.wrap IntKind.i64 ((300 : Int) + r))]])
 (VC.all ((maskS (8 : Int) (IntKind.wrap IntKind.i64 ((300 : Int) + r)), true)) fun (y10 : Int × Bool) =>
 (VC.br (y8.fst != y9.fst)
  (VC.ret (some (RR.c (Rc.d (D.bool false)))))
  (VC.br (if true = true then !y8.snd == y9.snd else y8.snd == y9.snd)
   (VC.ret (some (RR.c (Rc.d (D.bool false)))))
   (VC.br (!y10.snd)
    (VC.ret (some (RR.c (Rc.d (D.bool false)))))
    (VC.br (y10.fst != IntKind.wrap IntKind.i64 ((44 : Int) + r))
     (VC.ret (some (RR.c (Rc.d (D.bool false)))))
     (VC.br (decide (last < (0 : Int)))
      (VC.br (y8.snd)
       (VC.br (y8.fst == IntKind.wrap IntKind.i64 ((11 : Int) + r))
        (VC.need (PreOk c_awake10 PUnit.unit [])
        (VC.ret (some (RR.c (Rc.d (D.bool true))))))
        (VC.ret (some (RR.c (Rc.d (D.bool false))))))
       (VC.ret (some (RR.c (Rc.d (D.bool false))))))
      (VC.need ((0 : Int) ≤ last ∧ last < (↑e : Int))
      (VC.need (Int.toNat last < List.length E ∧ List.length (rowAt E (Int.toNat last)) = (8 : Nat) ∧ okSh [Kd.bool] (List.drop (5 : Nat) (rowAt E (Int.toNat last))))
      (VC.br (if false = true then !y8.snd == asBool (List.getD (List.drop (5 : Nat) (rowAt E (Int.toNat last))) (0 : Nat) D.nilp) else y8.snd == asBool (List.getD (List.drop (5 : Nat) (rowAt E (Int.toNat last))) (0 : Nat) D.nilp))
       (VC.br (!y8.snd)
        (VC.br (y8.fst == (0 : Int))
         (VC.need (PreOk c_awake10 PUnit.unit [])
         (VC.ret (some (RR.c (Rc.d (D.bool true))))))
         (VC.br (y8.snd)
          (VC.need ((0 : Int) ≤ last ∧ last < (↑e : Int))
          (VC.need (Int.toNat last < List.length E ∧ List.length (rowAt E (Int.toNat last)) = (8 : Nat) ∧ okSh [Kd.int IntKind.i64] (List.drop (1 : Nat) (rowAt E (Int.toNat last))))
          (VC.br (y8.fst == asInt (List.getD (List.drop (1 : Nat) (rowAt E (Int.toNat last))) (0 : Nat) D.nilp))
           (VC.need (PreOk c_awake10 PUnit.unit [])
           (VC.ret (some (RR.c (Rc.d (D.bool true))))))
           (VC.ret (some (RR.c (Rc.d (D.bool false))))))))
          (VC.ret (some (RR.c (Rc.d (D.bool false)))))))
        (VC.br (y8.snd)
         (VC.need ((0 : Int) ≤ last ∧ last < (↑e : Int))
         (VC.need (Int.toNat last < List.length E ∧ List.length (rowAt E (Int.toNat last)) = (8 : Nat) ∧ okSh [Kd.int IntKind.i64] (List.drop (1 : Nat) (rowAt E (Int.toNat last))))
         (VC.br (y8.fst == asInt (List.getD (List.drop (1 : Nat) (rowAt E (Int.toNat last))) (0 : Nat) D.nilp))
          (VC.need (PreOk c_awake10 PUnit.unit [])
          (VC.ret (some (RR.c (Rc.d (D.bool true))))))
          (VC.ret (some (RR.c (Rc.d (D.bool false))))))))
         (VC.ret (some (RR.c (Rc.d (D.bool false)))))))
       (VC.ret (some (RR.c (Rc.d (D.bool false)))))))))))))))))))) := by kernel_rfl
theorem rd_getE (l : List Ent) (k : Nat) (h : k < l.length) : rd l (k : Int) = l[k] := by
  unfold rd
  rw [Int.toNat_natCast, List.getD_eq_getElem?_getD, List.getElem?_eq_getElem h]
  rfl
def insL (k : Int) : Ins := ⟨1, 1, k, false, 0, false, 0, ⟨#[]⟩, 0⟩
def insN (k : Nat) : List Ins := (List.range k).map fun (j : Nat) => insL (j : Int)
def pLast : Prg := ⟨8, 6, 0, 0, 0, 0, 0, [], [], insN 4⟩
def gLast : Regs := ⟨11, 12, 13, 14⟩
def lastN (l : List Ent) (r : Int) : Nat → Int
  | 0 => -1
  | k + 1 => if (rd l (k : Int)).pc = r then (k : Int) else lastN l r k
theorem lastN_range (l : List Ent) (r : Int) : ∀ k : Nat, -1 ≤ lastN l r k ∧ lastN l r k < k
  | 0 => ⟨by simp [lastN], by simp [lastN]⟩
  | k + 1 => by
    have ih := lastN_range l r k
    unfold lastN
    split <;> omega
theorem dest_last (pc : Int) (h0 : 0 ≤ pc) (h4 : pc < 4) : destS (atS pLast.ins pc) = (pc, true) := by
  have : pc = 0 ∨ pc = 1 ∨ pc = 2 ∨ pc = 3 := by omega
  rcases this with rfl | rfl | rfl | rfl <;> decide +kernel
theorem regK_last (g : Regs) (r : Int) (l : List Ent) : ∀ k : Nat, (∀ j : Nat, j < k → 0 ≤ (rd l (j : Int)).pc ∧ (rd l (j : Int)).pc < 4) →
    regK pLast g r l k = if lastN l r k < 0 then (g.get r, true) else if (rd l (lastN l r k)).done = true then ((rd l (lastN l r k)).val, true) else (0, false)
  | 0, _ => by simp [regK, lastN]
  | k + 1, h => by
    have ih := regK_last g r l k fun j hj => h j (by omega)
    have hk := h k (by omega)
    unfold regK lastN
    rw [dest_last _ hk.1 hk.2]
    by_cases e : (rd l (k : Int)).pc = r
    · rw [if_pos ⟨rfl, e⟩, if_pos e, if_neg (show ¬ ((k : Nat) : Int) < 0 by omega)]
    · rw [if_neg (fun q => e q.2), if_neg e, ih]
theorem lastN_take (l : List Ent) (r : Int) (m : Nat) : ∀ k : Nat, k ≤ m → k ≤ l.length → lastN (l.take m) r k = lastN l r k
  | 0, _, _ => rfl
  | k + 1, h1, h2 => by
    have ih := lastN_take l r m k (by omega) (by omega)
    unfold lastN
    rw [ih, rd_getE _ k (by simp; omega), rd_getE l k (by omega), List.getElem_take]
theorem rd_take (l : List Ent) (m : Nat) (k : Int) (h0 : 0 ≤ k) (h1 : k < m) (h2 : k < l.length) : rd (l.take m) k = rd l k := by
  rw [show k = ((k.toNat : Nat) : Int) by omega, rd_getE _ _ (by simp; omega), rd_getE _ _ (by omega), List.getElem_take]
/-- What the law's register holds. -/
theorem reg_last (l : List Ent) (at_ r : Int) (h0 : 0 ≤ r) (h4 : r < 4) (ha : 0 ≤ at_) (hpc : ∀ (k : Nat) (h : k < l.length), 0 ≤ l[k].pc ∧ l[k].pc < 4) (j : Int) (hj : j = min at_ l.length) :
    regS pLast gLast l at_ r = if lastN l r j.toNat < 0 then (11 + r, true) else if (rd l (lastN l r j.toNat)).done = true then ((rd l (lastN l r j.toNat)).val, true) else (0, false) := by
  have ec : cutS l at_ = l.take j.toNat := by unfold cutS; rw [show max at_ 0 = at_ by omega, ← hj]
  have el : (l.take j.toNat).length = j.toNat := by simp; omega
  unfold regS
  rw [if_neg (by omega), ec, el, regK_last gLast r _ j.toNat fun k hk => by rw [rd_getE _ k (by omega), List.getElem_take]; exact hpc k (by omega)]
  rw [lastN_take l r j.toNat j.toNat (Nat.le_refl _) (by omega)]
  have hr := lastN_range l r j.toNat
  have hg : gLast.get r = 11 + r := by
    have : r = 0 ∨ r = 1 ∨ r = 2 ∨ r = 3 := by omega
    rcases this with rfl | rfl | rfl | rfl <;> rfl
  rw [hg]
  by_cases hn : lastN l r j.toNat < 0
  · rw [if_pos hn, if_pos hn]
  · rw [if_neg hn, if_neg hn, rd_take l j.toNat _ (by omega) (by omega) (by omega)]
theorem mask44 (r : Int) (h0 : 0 ≤ r) (h4 : r < 4) : maskS 8 (300 + r) = 44 + r := by
  have : r = 0 ∨ r = 1 ∨ r = 2 ∨ r = 3 := by omega
  rcases this with rfl | rfl | rfl | rfl <;> decide +kernel
theorem l_rl2 (r at_ : Int) (l : List Ent) (h0 : 0 ≤ r) (h4 : r < 4) (ha : 0 ≤ at_) (hl : l.length ≤ 12) (hpc : ∀ (k : Nat) (h : k < l.length), 0 ≤ l[k].pc ∧ l[k].pc < 4) : ∀ i : Int × Int, (fun (i : Int × Int) => 0 ≤ i.1 ∧ i.1 ≤ l.length ∧ i.1 ≤ at_ ∧ i.2 = lastN l r i.1.toNat) i → (a_lLast.at_ 2 ((fun (i : Int × Int) => F_rl2 r at_ 4 (rowsOn (insN 4)) l.length (rowsOn l) i.2 i.1) i)).holds s_lLast.cx a_lLast.rs (fun r => r.le (rb true)) := by
  refine loop_rule (a := a_lLast) (j := 2) (m := 400) s_lLast_sound (fun (i : Int × Int) => F_rl2 r at_ 4 (rowsOn (insN 4)) l.length (rowsOn l) i.2 i.1) (fun (i : Int × Int) => 0 ≤ i.1 ∧ i.1 ≤ l.length ∧ i.1 ≤ at_ ∧ i.2 = lastN l r i.1.toNat) (fun (i : Int × Int) => ((l.length : Int) - i.1).toNat) ?_
  rintro ⟨i, last⟩ h_inv ih
  try dsimp only at h_inv
  replace ih := fun (v0 : Int) (v1 : Int) => ih (v0, v1)
  try dsimp only at ih
  show VC.holds _ _ _ (a_lLast.round s_lLast 400 2 (F_rl2 r at_ 4 (rowsOn (insN 4)) l.length (rowsOn l) last i))
  rw [t_rl2]
  try simp only [asRows_sl, asInt_int, asBool_bool, asStr_str, listOf_rowsOn, List.drop_zero, Prg.eta, Sta.eta, rowsOn_length, getD_drop, Nat.reduceAdd, rd_int, rd_PMem_name, rd_PMem_secret, rd_PMem_n, rd_PLabel_name, rd_PLabel_at_, rd_Ins_kind, rd_Ins_op, rd_Ins_d, rd_Ins_aR, rd_Ins_aN, rd_Ins_bR, rd_Ins_bN, rd_Ins_name, rd_Ins_target, rd_Ent_pc, rd_Ent_val, rd_Ent_addr, rd_Ent_fro, rd_Ent_next, rd_Ent_done, rd_Ent_known, rd_Ent_fault, rd_Place_reg, rd_Place_n, rd_Place_secret, rd_Obs_kind, rd_Obs_at_, rd_Dir_kind, rd_Dir_n, Prg.of_cells, Sta.of_cells]
  obtain ⟨i0, i1, i2, i3⟩ := h_inv
  have w1 : IntKind.wrap .i64 (i + 1) = i + 1 := wrap_small _ (by omega) (by omega)
  simp only [w1]
  have en : (i + 1).toNat = i.toNat + 1 := by omega
  have ei : ((i.toNat : Nat) : Int) = i := by omega
  have hs : lastN l r (i.toNat + 1) = if (rd l i).pc = r then i else lastN l r i.toNat := by
    show (if (rd l ((i.toNat : Nat) : Int)).pc = r then ((i.toNat : Nat) : Int) else _) = _
    rw [ei]
  have hr := lastN_range l r i.toNat
  rw [← i3] at hr
  have w2 : IntKind.wrap .i64 (300 + r) = 300 + r := wrap_small _ (by omega) (by omega)
  have w3 : IntKind.wrap .i64 (44 + r) = 44 + r := wrap_small _ (by omega) (by omega)
  have w4 : IntKind.wrap .i64 (11 + r) = 11 + r := wrap_small _ (by omega) (by omega)
  have hreg := reg_last l at_ r h0 h4 ha hpc i
  rw [← i3] at hreg
  rw [w2, w3, w4]
  refine br_dec (fun hd => br_dec (fun he => ?_) (fun he => ?_)) (fun hd => ?_)
  · refine ⟨⟨i0, he⟩, ⟨by omega, by rw [rowAt_on l i i0 he]; rfl, by rw [rowAt_on l i i0 he]; rfl⟩, br_beq (fun hb => ?_) (fun hb => ?_)⟩
    · exact ih _ _ ⟨by omega, by omega, by omega, by rw [en, hs, if_pos hb]⟩ (by omega)
    · exact ih _ _ ⟨by omega, by omega, by omega, by rw [en, hs, if_neg hb]; exact i3⟩ (by omega)
  all_goals
    replace hreg := hreg (by omega)
    refine ⟨PreOk.mk (by dsimp only [c_reg]; omega) rfl, all_holds fun y hy => ⟨PreOk.mk (by dsimp only [c_rval]; omega) rfl, all_holds fun z hz => ⟨PreOk.mk (by dsimp only [c_rval]; omega) rfl, all_holds fun v hv => ?_⟩⟩⟩
    replace hy : y = regS pLast gLast l at_ r := hy
    replace hz : z = regS pLast gLast l at_ r := hz
    rw [mask44 r h0 h4] at hv
    rw [hreg] at hy
    rw [hreg, ← hy] at hz
    subst hz hv
    refine br_bne (fun q => absurd rfl q) (fun _ => br_f (by simp) (br_f rfl (br_bne (fun q => absurd rfl q) (fun _ => br_dec (fun hn => ?_) (fun hn => ?_)))))
    · rw [if_pos hn] at hy
      subst hy
      exact br_t rfl (br_beq (fun _ => ⟨PreOk.mk trivial rfl, ret_le (RR.le_refl _)⟩) (fun q => absurd rfl q))
    · rw [if_neg hn] at hy
      have g1 : 0 ≤ last ∧ last < (l.length : Int) := by omega
      have g2 : last.toNat < l.length ∧ (rowAt (rowsOn l) last.toNat).length = 8 := ⟨by omega, by rw [rowAt_on l last g1.1 g1.2]; rfl⟩
      have e5 : asBool (List.getD (List.drop 5 (rowAt (rowsOn l) last.toNat)) 0 .nilp) = (rd l last).done := by rw [getD_drop]; exact rd_Ent_done l last
      have e1 : asInt (List.getD (List.drop 1 (rowAt (rowsOn l) last.toNat)) 0 .nilp) = (rd l last).val := by rw [getD_drop]; exact rd_Ent_val l last
      have k5 : okSh [Kd.bool] (List.drop 5 (rowAt (rowsOn l) last.toNat)) := by rw [rowAt_on l last g1.1 g1.2]; rfl
      have k1 : okSh [Kd.int .i64] (List.drop 1 (rowAt (rowsOn l) last.toNat)) := by rw [rowAt_on l last g1.1 g1.2]; rfl
      first | rw [e5] | skip
      first | rw [e1] | skip
      cases hdn : (rd l last).done with
      | true =>
        rw [hdn, if_pos rfl] at hy
        subst hy
        exact ⟨g1, ⟨g2.1, g2.2, k5⟩, br_t rfl (br_f rfl (br_t rfl ⟨g1, ⟨g2.1, g2.2, k1⟩, br_beq (fun _ => ⟨PreOk.mk trivial rfl, ret_le (RR.le_refl _)⟩) (fun q => absurd rfl q)⟩))⟩
      | false =>
        rw [hdn, if_neg (by simp)] at hy
        subst hy
        exact ⟨g1, ⟨g2.1, g2.2, k5⟩, br_t rfl (br_t rfl (br_beq (fun _ => ⟨PreOk.mk trivial rfl, ret_le (RR.le_refl _)⟩) (fun q => absurd rfl q)))⟩
def bitL (done i : Int) : Bool := bits .and .i64 (Int.fdiv done (2 ^ min (Int.toNat (IntKind.wrap .u64 i)) 64)) 1 == 1
def entL (a v done i : Int) : Ent := ⟨bits .and .i64 a 3, v, 0, 0, 0, bitL done i, false, false⟩
theorem pc_snoc {l : List Ent} (h : ∀ (k : Nat) (h : k < l.length), 0 ≤ l[k].pc ∧ l[k].pc < 4) (x : Ent) (hx : 0 ≤ x.pc ∧ x.pc < 4) : ∀ (k : Nat) (h : k < (l ++ [x]).length), 0 ≤ (l ++ [x])[k].pc ∧ (l ++ [x])[k].pc < 4 := fun k hk => by
  by_cases hlt : k < l.length
  · rw [List.getElem_append_left hlt]; exact h k hlt
  · have e : k = l.length := by simp at hk; omega
    subst e
    rw [List.getElem_append_right (Nat.le_refl _)]
    simp only [Nat.sub_self, List.getElem_cons_zero]
    exact hx
theorem pc_ent (a v done i : Int) : 0 ≤ (entL a v done i).pc ∧ (entL a v done i).pc < 4 := by
  show 0 ≤ bits .and .i64 a 3 ∧ bits .and .i64 a 3 < 4
  rw [and3]; omega
theorem l_rl1 (regs : List Int) (done : Int) (vals : List Int) (r at_ : Int) : ∀ i : Int × Nat × List (List D), (fun (i : Int × Nat × List (List D)) => 0 ≤ i.1 ∧ i.1 ≤ 12 ∧ ∃ l : List Ent, OnL i.2.2 i.2.1 l ∧ (l.length : Int) = i.1 ∧ ∀ (k : Nat) (h : k < l.length), 0 ≤ l[k].pc ∧ l[k].pc < 4) i → (a_lLast.at_ 1 ((fun (i : Int × Nat × List (List D)) => F_rl1 regs done vals r at_ 4 (rowsOn (insN 4)) i.2.1 i.2.2 i.1) i)).holds s_lLast.cx a_lLast.rs (fun r => r.le (rb true)) := by
  refine loop_rule (a := a_lLast) (j := 1) (m := 400) s_lLast_sound (fun (i : Int × Nat × List (List D)) => F_rl1 regs done vals r at_ 4 (rowsOn (insN 4)) i.2.1 i.2.2 i.1) (fun (i : Int × Nat × List (List D)) => 0 ≤ i.1 ∧ i.1 ≤ 12 ∧ ∃ l : List Ent, OnL i.2.2 i.2.1 l ∧ (l.length : Int) = i.1 ∧ ∀ (k : Nat) (h : k < l.length), 0 ≤ l[k].pc ∧ l[k].pc < 4) (fun (i : Int × Nat × List (List D)) => (12 - i.1).toNat) ?_
  rintro ⟨i, e, E⟩ h_inv ih
  try dsimp only at h_inv
  replace ih := fun (v0 : Int) (v1 : Nat) (v2 : List (List D)) => ih (v0, v1, v2)
  try dsimp only at ih
  show VC.holds _ _ _ (a_lLast.round s_lLast 400 1 (F_rl1 regs done vals r at_ 4 (rowsOn (insN 4)) e E i))
  rw [t_rl1]
  try simp only [asRows_sl, asInt_int, asBool_bool, asStr_str, listOf_rowsOn, List.drop_zero, Prg.eta, Sta.eta, rowsOn_length, getD_drop, Nat.reduceAdd, rd_int, rd_PMem_name, rd_PMem_secret, rd_PMem_n, rd_PLabel_name, rd_PLabel_at_, rd_Ins_kind, rd_Ins_op, rd_Ins_d, rd_Ins_aR, rd_Ins_aN, rd_Ins_bR, rd_Ins_bN, rd_Ins_name, rd_Ins_target, rd_Ent_pc, rd_Ent_val, rd_Ent_addr, rd_Ent_fro, rd_Ent_next, rd_Ent_done, rd_Ent_known, rd_Ent_fault, rd_Place_reg, rd_Place_n, rd_Place_secret, rd_Obs_kind, rd_Obs_at_, rd_Dir_kind, rd_Dir_n, Prg.of_cells, Sta.of_cells]
  obtain ⟨h0, h1, l, h2, h3, h4⟩ := h_inv
  have w1 : IntKind.wrap .i64 (i + 1) = i + 1 := wrap_small _ (by omega) (by omega)
  simp only [w1]
  have a1 : bits .and .i64 r 3 = r % 4 := and3 r
  have a2 : bits .and .i64 at_ 15 = at_ % 16 := and_mask at_ 4 (by decide)
  rw [a1, a2]
  have fin : (a_lLast.at_ 2 (F_rl2 (r % 4) (at_ % 16) 4 (rowsOn (insN 4)) e E (-1) 0)).holds s_lLast.cx a_lLast.rs fun r => r.le (rb true) := by
    obtain ⟨rfl, rfl⟩ := h2
    exact l_rl2 (r % 4) (at_ % 16) l (by omega) (by omega) (by omega) (by omega) h4 (0, -1) ⟨by omega, by dsimp only; omega, by dsimp only; omega, rfl⟩
  refine br_dec (fun hd => br_dec (fun he => ?_) (fun he => fin)) (fun hd => fin)
  refine ⟨⟨h0, hd, by rw [rowAt_on regs i h0 hd]; rfl⟩, okSh_ok _ regs i (fun _ => rfl) h0 hd, by rw [IntKind.wrap_u64]; omega, br_dec (fun hv => ?_) (fun hv => ?_)⟩
  · refine ⟨⟨h0, hv, by rw [rowAt_on vals i h0 hv]; rfl⟩, okSh_ok _ vals i (fun _ => rfl) h0 hv, app_ok h2 rfl rfl (by simp only [List.length_cons, List.length_nil]; omega), ih _ _ _ ⟨by omega, by omega, _, h2.snoc (entL (rd regs i) (bits .and .i64 (rd vals i) 255) done i), by simp; omega, pc_snoc h4 _ (pc_ent _ _ _ _)⟩ (by omega)⟩
  · refine ⟨app_ok h2 rfl rfl (by simp only [List.length_cons, List.length_nil]; omega), ih _ _ _ ⟨by omega, by omega, _, h2.snoc (entL (rd regs i) 0 done i), by simp; omega, pc_snoc h4 _ (pc_ent _ _ _ _)⟩ (by omega)⟩
theorem insN_succ (k : Nat) : insN (k + 1) = insN k ++ [insL (k : Int)] := by
  unfold insN
  rw [List.range_succ, List.map_append]
  rfl
theorem l_rl0 (regs : List Int) (done : Int) (vals : List Int) (r at_ : Int) : ∀ i : Int × Nat × List (List D), (fun (i : Int × Nat × List (List D)) => 0 ≤ i.1 ∧ i.1 ≤ 4 ∧ OnL i.2.2 i.2.1 (insN i.1.toNat)) i → (a_lLast.at_ 0 ((fun (i : Int × Nat × List (List D)) => F_rl0 regs done vals r at_ i.2.1 i.2.2 i.1) i)).holds s_lLast.cx a_lLast.rs (fun r => r.le (rb true)) := by
  refine loop_rule (a := a_lLast) (j := 0) (m := 400) s_lLast_sound (fun (i : Int × Nat × List (List D)) => F_rl0 regs done vals r at_ i.2.1 i.2.2 i.1) (fun (i : Int × Nat × List (List D)) => 0 ≤ i.1 ∧ i.1 ≤ 4 ∧ OnL i.2.2 i.2.1 (insN i.1.toNat)) (fun (i : Int × Nat × List (List D)) => (4 - i.1).toNat) ?_
  rintro ⟨i, m, I⟩ h_inv ih
  try dsimp only at h_inv
  replace ih := fun (v0 : Int) (v1 : Nat) (v2 : List (List D)) => ih (v0, v1, v2)
  try dsimp only at ih
  show VC.holds _ _ _ (a_lLast.round s_lLast 400 0 (F_rl0 regs done vals r at_ m I i))
  rw [t_rl0]
  try simp only [asRows_sl, asInt_int, asBool_bool, asStr_str, listOf_rowsOn, List.drop_zero, Prg.eta, Sta.eta, rowsOn_length, getD_drop, Nat.reduceAdd, rd_int, rd_PMem_name, rd_PMem_secret, rd_PMem_n, rd_PLabel_name, rd_PLabel_at_, rd_Ins_kind, rd_Ins_op, rd_Ins_d, rd_Ins_aR, rd_Ins_aN, rd_Ins_bR, rd_Ins_bN, rd_Ins_name, rd_Ins_target, rd_Ent_pc, rd_Ent_val, rd_Ent_addr, rd_Ent_fro, rd_Ent_next, rd_Ent_done, rd_Ent_known, rd_Ent_fault, rd_Place_reg, rd_Place_n, rd_Place_secret, rd_Obs_kind, rd_Obs_at_, rd_Dir_kind, rd_Dir_n, Prg.of_cells, Sta.of_cells]
  obtain ⟨h0, h1, h2⟩ := h_inv
  have w1 : IntKind.wrap .i64 (i + 1) = i + 1 := wrap_small _ (by omega) (by omega)
  simp only [w1]
  have hl : (insN i.toNat).length ≤ 4 := by unfold insN; simp; omega
  have ei : ((i.toNat : Nat) : Int) = i := by omega
  refine br_dec (fun hd => ?_) (fun hd => ?_)
  · refine ⟨app_ok h2 rfl rfl (by simp only [List.length_cons, List.length_nil]; omega), ih _ _ _ ⟨by omega, by omega, ?_⟩ (by omega)⟩
    rw [show (i + 1).toNat = i.toNat + 1 by omega, insN_succ, ei]
    exact h2.snoc (insL i)
  · have e : i = 4 := by omega
    subst e
    obtain ⟨rfl, rfl⟩ := h2
    exact l_rl1 regs done vals r at_ (0, 0, []) ⟨by omega, by dsimp only; omega, [], OnL.nil, rfl, fun k h => by simp at h⟩
theorem c_lLast_good : c_lLast.fe.Good Try.prog := by
  refine FT.good c_lLast ⟨Try.f4, by kernel_rfl, by decide +kernel, by kernel_rfl⟩ (fun ⟨regs, done, vals, r, at_⟩ => by first | rfl | simp [c_lLast, rrRef, rE, rrun, rstep, rins, rnum, rby, rss, rnewI, rnewE, rstab, rplaces, ri, rb, rib, Sta.fresh]) fun ⟨regs, done, vals, r, at_⟩ hp => ?_
  refine acalls_le s_lLast_sound (fn := Try.f4) (a := a_lLast) (nargs := 5) (tbl := [(3, [0, 1, 2, 3, 4, 11, 12, 3000704009000900001009]), (8, [0, 1, 2, 3, 4, 11, 13, 14, 3000704009000900001009, 1000013000000900002008]), (18, [3, 4, 11, 13, 16, 17, 18, 3000704009000900001009, 1000013000000900002008])]) (by kernel_rfl) (by kernel_rfl) rfl (m := 400) ?_
  show VC.holds _ _ _ (a_lLast.start s_lLast 400 [al regs, ai done, al vals, ai r, ai at_])
  rw [t_lLast]
  try simp only [asRows_sl, asInt_int, asBool_bool, asStr_str, listOf_rowsOn, List.drop_zero, Prg.eta, Sta.eta, rowsOn_length, getD_drop, Nat.reduceAdd, rd_int, rd_PMem_name, rd_PMem_secret, rd_PMem_n, rd_PLabel_name, rd_PLabel_at_, rd_Ins_kind, rd_Ins_op, rd_Ins_d, rd_Ins_aR, rd_Ins_aN, rd_Ins_bR, rd_Ins_bN, rd_Ins_name, rd_Ins_target, rd_Ent_pc, rd_Ent_val, rd_Ent_addr, rd_Ent_fro, rd_Ent_next, rd_Ent_done, rd_Ent_known, rd_Ent_fault, rd_Place_reg, rd_Place_n, rd_Place_secret, rd_Obs_kind, rd_Obs_at_, rd_Dir_kind, rd_Dir_n, Prg.of_cells, Sta.of_cells]
  try simp only [c_lLast] at hp
  exact l_rl0 regs done vals r at_ (0, 0, []) ⟨by omega, by dsimp only; omega, OnL.nil⟩
end Go.Proofs.Ytclabjihjopclaa.Ax
end
