/- Several texts in one, in their order. -/
import Derived.Test.YtmhfhobaicklmaaPart3
import Derived.Test.YtmhfhobaicklmaaAxTg
section
/- Layer 10: what a register holds under way. -/
namespace Go.Proofs.Ytmhfhobaicklmaa.Ax
open Go.RowKit
set_option linter.unusedVariables false
set_option linter.unusedSimpArgs false
def cutS (l : List Ent) (i : Int) : List Ent := l.take (min (max i 0) l.length).toNat
theorem cutS_len (l : List Ent) (i : Int) : (cutS l i).length ≤ l.length := by simp only [cutS, List.length_take]; omega
theorem okE (l : List Ent) : (List.all (rowsOn l) fun r => List.length r == 8) = true := rowsOn_all _ _ rfl
def aE (l : List Ent) : A := .c (.sl (rowsOn l))
def aEnt (e : Ent) : A := .agg (row e)
def rdEI : List A → List Ent × Int
  | [.c (.sl l), .c (.int _ i)] => (listOf Ent l, i)
  | _ => default
def rE (l : List Ent) : RR := .c (.d (.sl (rowsOn l)))
def c_cut : FT (List Ent × Int) := ⟨44, fun x => [aE x.1, ai x.2], rdEI, fun x => x.1.length ≤ 1000000000, fun x => rE (cutS x.1 x.2), true, fun x => by simp [aE, ai, rdEI]⟩
noncomputable def a_cut : FnA := (fnA Try.prog Try.f44 2 []).getD ⟨0, .skip, [], []⟩
def s_cut : Sp := spT [c_cloneE.fe]
theorem s_cut_sound : s_cut.sound Try.prog := spT_sound fun e he => by
  simp only [List.mem_cons, List.not_mem_nil, or_false] at he
  rcases he with rfl
  · exact c_cloneE_good
set_option maxRecDepth 100000 in
theorem t_cut (l : List Ent) (i : Int) : a_cut.start s_cut 400 [aE l, ai i] =
(VC.need ((List.all (rowsOn l) fun r ↦ List.length r == (8 : Nat)) = true ∧ (0 : Int) ≤ (0 : Int) ∧ (0 : Int) ≤ min (max i (0 : Int)) (↑(List.length (rowsOn l)) : Int) ∧ min (max i (0 : Int)) (↑(List.length (rowsOn l)) : Int) ≤ (↑(List.length (rowsOn l)) : Int))
(VC.need (PreOk c_cloneE (listOf Ent (List.drop (0 : Nat) (List.take (Int.toNat (min (max i (0 : Int)) (↑(List.length (rowsOn l)) : Int))) (rowsOn l))), ()) [A.c (D.sl (List.drop (0 : Nat) (List.take (Int.toNat (min (max i (0 : Int)) (↑(List.length (rowsOn l)) : Int))) (rowsOn l))))])
(VC.ret (some (RR.c (Rc.new (8 : Nat) (rowsOn (listOf Ent (List.drop (0 : Nat) (List.take (Int.toNat (min (max i (0 : Int)) (↑(List.length (rowsOn l)) : Int))) (rowsOn l))))))))))) := by kernel_rfl
theorem c_cut_good : c_cut.fe.Good Try.prog := by
  refine FT.good c_cut ⟨Try.f44, by kernel_rfl, by decide +kernel, by kernel_rfl⟩ (fun ⟨l, i⟩ => by first | rfl | simp [c_cut, rrRef, rrun, rstep, rins, rnum, rby, rss, rnewI, rnewE, rstab, rplaces, ri, rb, rib, rE, Sta.fresh]) fun ⟨l, i⟩ hp => ?_
  refine acalls_leD s_cut_sound (fn := Try.f44) (a := a_cut) (nargs := 2) (tbl := []) (by kernel_rfl) (by kernel_rfl) rfl (m := 400) ?_
  show VC.holds _ _ _ (a_cut.start s_cut 400 [aE l, ai i])
  rw [t_cut]
  try simp only [asRows_sl, asInt_int, asBool_bool, asStr_str, listOf_rowsOn, List.drop_zero, Prg.eta, Sta.eta, rowsOn_length, getD_drop, Nat.reduceAdd, rd_int, rd_PMem_name, rd_PMem_secret, rd_PMem_n, rd_PLabel_name, rd_PLabel_at_, rd_Ins_kind, rd_Ins_op, rd_Ins_d, rd_Ins_aR, rd_Ins_aN, rd_Ins_bR, rd_Ins_bN, rd_Ins_name, rd_Ins_target, rd_Ent_pc, rd_Ent_val, rd_Ent_addr, rd_Ent_fro, rd_Ent_next, rd_Ent_done, rd_Ent_known, rd_Ent_fault, rd_Place_reg, rd_Place_n, rd_Place_secret, rd_Obs_kind, rd_Obs_at_, rd_Dir_kind, rd_Dir_n, Prg.of_cells, Sta.of_cells]
  try simp only [c_cut] at hp
  have hc := cutS_len l i
  simp only [rowsOn_take, listOf_rowsOn]
  refine ⟨⟨okE l, by omega, by omega, by omega⟩, PreOk.mk (by dsimp only [c_cloneE]; simp only [List.length_take]; omega) rfl, ret_leD (RR.le_of_eq rfl)⟩
def rdIns : List A → Ins × Unit
  | [.agg r] => (Row.of r, ())
  | _ => default
def destS (x : Ins) : Int × Bool := if x.kind = 1 ∨ x.kind = 2 ∨ x.kind = 4 then (x.d, true) else (0, false)
def c_dest : FT (Ins × Unit) := ⟨17, fun x => [aIns x.1], rdIns, fun _ => True, fun x => rib (destS x.1), false, fun x => by simp [aIns, rdIns]; rfl⟩
noncomputable def a_dest : FnA := (fnA Try.prog Try.f17 1 []).getD ⟨0, .skip, [], []⟩
def s_dest : Sp := spT []
theorem s_dest_sound : s_dest.sound Try.prog := spT_sound fun e he => by cases he
set_option maxRecDepth 100000 in
theorem t_dest (x : Ins) : a_dest.start s_dest 400 [aIns x] =
(VC.br (x.kind == (1 : Int))
 (VC.ret (some (RR.tup [Sum.inl (Rc.d (D.int IntKind.i64 x.d)), Sum.inl (Rc.d (D.bool true))])))
 (VC.br (x.kind == (2 : Int))
  (VC.ret (some (RR.tup [Sum.inl (Rc.d (D.int IntKind.i64 x.d)), Sum.inl (Rc.d (D.bool true))])))
  (VC.br (x.kind == (4 : Int))
   (VC.ret (some (RR.tup [Sum.inl (Rc.d (D.int IntKind.i64 x.d)), Sum.inl (Rc.d (D.bool true))])))
   (VC.ret (some (RR.tup [Sum.inl (Rc.d (D.int IntKind.i64 (0 : Int))), Sum.inl (Rc.d (D.bool false))])))))) := by kernel_rfl
theorem c_dest_good : c_dest.fe.Good Try.prog := by
  refine FT.good c_dest ⟨Try.f17, by kernel_rfl, by decide +kernel, by kernel_rfl⟩ (fun ⟨x, u⟩ => by first | rfl | simp [c_dest, rrRef, rrun, rstep, rins, rnum, rby, rss, rnewI, rnewE, rstab, rplaces, ri, rb, rib, rE, Sta.fresh]) fun ⟨x, u⟩ hp => ?_
  refine acalls_le s_dest_sound (fn := Try.f17) (a := a_dest) (nargs := 1) (tbl := []) (by kernel_rfl) (by kernel_rfl) rfl (m := 400) ?_
  show VC.holds _ _ _ (a_dest.start s_dest 400 [aIns x])
  rw [t_dest]
  try simp only [asRows_sl, asInt_int, asBool_bool, asStr_str, listOf_rowsOn, List.drop_zero, Prg.eta, Sta.eta, rowsOn_length, getD_drop, Nat.reduceAdd, rd_int, rd_PMem_name, rd_PMem_secret, rd_PMem_n, rd_PLabel_name, rd_PLabel_at_, rd_Ins_kind, rd_Ins_op, rd_Ins_d, rd_Ins_aR, rd_Ins_aN, rd_Ins_bR, rd_Ins_bN, rd_Ins_name, rd_Ins_target, rd_Ent_pc, rd_Ent_val, rd_Ent_addr, rd_Ent_fro, rd_Ent_next, rd_Ent_done, rd_Ent_known, rd_Ent_fault, rd_Place_reg, rd_Place_n, rd_Place_secret, rd_Obs_kind, rd_Obs_at_, rd_Dir_kind, rd_Dir_n, Prg.of_cells, Sta.of_cells]
  try simp only [c_dest] at hp
  have e : c_dest.ans (x, u) = rib (destS x) := rfl
  rw [e]
  unfold destS
  refine br_beq (fun h => ?_) (fun h1 => br_beq (fun h => ?_) (fun h2 => br_beq (fun h => ?_) (fun h3 => ?_)))
  · rw [if_pos (.inl h)]; exact ret_le (RR.le_refl _)
  · rw [if_pos (.inr (.inl h))]; exact ret_le (RR.le_refl _)
  · rw [if_pos (.inr (.inr h))]; exact ret_le (RR.le_refl _)
  · rw [if_neg (by omega)]; exact ret_le (RR.le_refl _)
/-- Who waits for a fence. -/
def fenS (p : Prg) (e : Ent) : Bool := (atS p.ins e.pc).kind == 10
def rdEF : List A → Ent × Prg
  | [.agg r, .c (.rptr l)] => (Row.of r, Prg.of l)
  | _ => default
def c_fen1 : FT (Ent × Prg) := ⟨52, fun x => [aEnt x.1, .c (.rptr x.2.cells)], rdEF, fun _ => True, fun x => rb (fenS x.2 x.1), false, fun x => by simp [aEnt, rdEF]; rfl⟩
noncomputable def a_fen1 : FnA := (fnA Try.prog Try.f52 2 []).getD ⟨0, .skip, [], []⟩
noncomputable def s_fen1 : Sp := spT [c_sAt.gfe v_sAt sh_sAt e_sAt]
theorem s_fen1_sound : s_fen1.sound Try.prog := spT_sound fun e he => by
  simp only [List.mem_cons, List.not_mem_nil, or_false] at he
  rcases he with rfl
  · exact FT.gfe_good c_sAt_good
set_option maxRecDepth 100000 in
theorem t_fen1 (e : Ent) (p : Prg) : a_fen1.start s_fen1 400 [aEnt e, .c (.rptr p.cells)] =
(VC.need (okSh [Kd.int IntKind.i64, Kd.int IntKind.i64, Kd.int IntKind.i64, Kd.int IntKind.i64, Kd.int IntKind.i64, Kd.int IntKind.i64, Kd.int IntKind.i64, Kd.sl, Kd.sl, Kd.sl] (Prg.cells p))
(VC.need (PreOk c_sAt (Prg.of [D.int IntKind.i64 (asInt (D.int IntKind.i64 p.w)), D.int IntKind.i64 (asInt (D.int IntKind.i64 p.window)), D.int IntKind.i64 (asInt (D.int IntKind.i64 p.fuel)), D.int IntKind.i64 (asInt (D.int IntKind.i64 p.r0)), D.int IntKind.i64 (asInt (D.int IntKind.i64 p.r1)), D.int IntKind.i64 (asInt (D.int IntKind.i64 p.r2)), D.int IntKind.i64 (asInt (D.int IntKind.i64 p.r3)), D.sl (asRows (D.sl (rowsOn p.mems))), D.sl (asRows (D.sl (rowsOn p.labels))), D.sl (asRows (D.sl (rowsOn p.ins)))], e.pc) [A.agg [D.int IntKind.i64 (asInt (D.int IntKind.i64 p.w)), D.int IntKind.i64 (asInt (D.int IntKind.i64 p.window)), D.int IntKind.i64 (asInt (D.int IntKind.i64 p.fuel)), D.int IntKind.i64 (asInt (D.int IntKind.i64 p.r0)), D.int IntKind.i64 (asInt (D.int IntKind.i64 p.r1)), D.int IntKind.i64 (asInt (D.int IntKind.i64 p.r2)), D.int IntKind.i64 (asInt (D.int IntKind.i64 p.r3)), D.sl (asRows (D.sl (rowsOn p.mems))), D.sl (asRows (D.sl (rowsOn p.labels))), D.sl (asRows (D.sl (rowsOn p.ins)))], A.c (D.int IntKind.i64 e.pc)])
(VC.all (v_sAt (Prg.of [D.int IntKind.i64 (asInt (D.int IntKind.i64 p.w)), D.int IntKind.i64 (asInt (D.int IntKind.i64 p.window)), D.int IntKind.i64 (asInt (D.int IntKind.i64 p.fuel)), D.int IntKind.i64 (asInt (D.int IntKind.i64 p.r0)), D.int IntKind.i64 (asInt (D.int IntKind.i64 p.r1)), D.int IntKind.i64 (asInt (D.int IntKind.i64 p.r2)), D.int IntKind.i64 (asInt (D.int IntKind.i64 p.r3)), D.sl (asRows (D.sl (rowsOn p.mems))), D.sl (asRows (D.sl (rowsOn p.labels))), D.sl (asRows (D.sl (rowsOn p.ins)))], e.pc)) fun (y2 : Ins) =>
(VC.ret (some (RR.c (Rc.d (D.bool (y2.kind == (10 : Int)))))))))) := by kernel_rfl
theorem ofP (p : Prg) : Prg.of [.int .i64 p.w, .int .i64 p.window, .int .i64 p.fuel, .int .i64 p.r0, .int .i64 p.r1, .int .i64 p.r2, .int .i64 p.r3, .sl (rowsOn p.mems), .sl (rowsOn p.labels), .sl (rowsOn p.ins)] = p := Prg.of_cells p
theorem c_fen1_good : c_fen1.fe.Good Try.prog := by
  refine FT.good c_fen1 ⟨Try.f52, by kernel_rfl, by decide +kernel, by kernel_rfl⟩ (fun ⟨e, p⟩ => by first | rfl | simp [c_fen1, rrRef, rrun, rstep, rins, rnum, rby, rss, rnewI, rnewE, rstab, rplaces, ri, rb, rib, rE, Sta.fresh]) fun ⟨e, p⟩ hp => ?_
  refine acalls_le s_fen1_sound (fn := Try.f52) (a := a_fen1) (nargs := 2) (tbl := []) (by kernel_rfl) (by kernel_rfl) rfl (m := 400) ?_
  show VC.holds _ _ _ (a_fen1.start s_fen1 400 [aEnt e, .c (.rptr p.cells)])
  rw [t_fen1]
  try simp only [asRows_sl, asInt_int, asBool_bool, asStr_str, listOf_rowsOn, List.drop_zero, Prg.eta, Sta.eta, rowsOn_length, getD_drop, Nat.reduceAdd, rd_int, rd_PMem_name, rd_PMem_secret, rd_PMem_n, rd_PLabel_name, rd_PLabel_at_, rd_Ins_kind, rd_Ins_op, rd_Ins_d, rd_Ins_aR, rd_Ins_aN, rd_Ins_bR, rd_Ins_bN, rd_Ins_name, rd_Ins_target, rd_Ent_pc, rd_Ent_val, rd_Ent_addr, rd_Ent_fro, rd_Ent_next, rd_Ent_done, rd_Ent_known, rd_Ent_fault, rd_Place_reg, rd_Place_n, rd_Place_secret, rd_Obs_kind, rd_Obs_at_, rd_Dir_kind, rd_Dir_n, Prg.of_cells, Sta.of_cells]
  try simp only [c_fen1] at hp
  simp only [ofP]
  refine ⟨rfl, PreOk.mk trivial rfl, all_holds fun y hy => ret_le ?_⟩
  subst hy
  exact RR.le_refl _
def aFn (p : Prg) : A := .c (.fn 52 [.rptr p.cells])
def rdLF : List A → List Ent × Prg
  | [.c (.sl l), .c (.fn _ [.rptr q])] => (listOf Ent l, Prg.of q)
  | _ => default
def ixF (p : Prg) (l : List Ent) : Nat → Nat → Int
  | 0, _ => -1
  | m + 1, k => if fenS p (rd l (k : Int)) = true then (k : Int) else ixF p l m (k + 1)
def ixS (p : Prg) (l : List Ent) : Int := ixF p l l.length 0
def c_ixf : FT (List Ent × Prg) := ⟨91, fun x => [aE x.1, aFn x.2], rdLF, fun x => x.1.length ≤ 1000000000, fun x => ri (ixS x.2 x.1), false, fun x => by simp [aE, aFn, rdLF]⟩
noncomputable def a_ixf : FnA := (fnA Try.prog Try.f91 2 [(2, [0, 1, 7, 8])]).getD ⟨0, .skip, [], []⟩
def s_ixf : Sp := spT [c_fen1.fe]
theorem s_ixf_sound : s_ixf.sound Try.prog := spT_sound fun e he => by
  simp only [List.mem_cons, List.not_mem_nil, or_false] at he
  rcases he with rfl
  · exact c_fen1_good
def F_ixf (l : List Ent) (p : Prg) (n i : Int) : St := ⟨mkS 19 [(0, vr (rowsOn l)), (1, .c (.d (.fn 52 [.rptr p.cells]))), (7, vi n), (8, vi i)], []⟩
set_option maxRecDepth 100000 in
theorem t_ixf (l : List Ent) (p : Prg) : a_ixf.start s_ixf 400 [aE l, aFn p] =
(FnA.at_ a_ixf 0 (F_ixf l p (↑(List.length (rowsOn l)) : Int) (0 : Int))) := by kernel_rfl
set_option maxRecDepth 100000 in
theorem t_ixf0 (l : List Ent) (p : Prg) (n i : Int) : a_ixf.round s_ixf 400 0 (F_ixf l p n i) =
(VC.br (decide (i < n))
 (VC.need ((0 : Int) ≤ i ∧ i < (↑(List.length (rowsOn l)) : Int) ∧ List.length (rowAt (rowsOn l) (Int.toNat i)) = (8 : Nat))
 (VC.need (okSh [Kd.int IntKind.i64, Kd.int IntKind.i64, Kd.int IntKind.i64, Kd.int IntKind.i64, Kd.int IntKind.i64, Kd.bool, Kd.bool, Kd.bool] (rowAt (rowsOn l) (Int.toNat i)))
 (VC.need (PreOk c_fen1 (Row.of [D.int IntKind.i64 (asInt (List.getD (rowAt (rowsOn l) (Int.toNat i)) (0 : Nat) D.nilp)), D.int IntKind.i64 (asInt (List.getD (rowAt (rowsOn l) (Int.toNat i)) (1 : Nat) D.nilp)), D.int IntKind.i64 (asInt (List.getD (rowAt (rowsOn l) (Int.toNat i)) (2 : Nat) D.nilp)), D.int IntKind.i64 (asInt (List.getD (rowAt (rowsOn l) (Int.toNat i)) (3 : Nat) D.nilp)), D.int IntKind.i64 (asInt (List.getD (rowAt (rowsOn l) (Int.toNat i)) (4 : Nat) D.nilp)), D.bool (asBool (List.getD (rowAt (rowsOn l) (Int.toNat i)) (5 : Nat) D.nilp)), D.bool (asBool (List.getD (rowAt (rowsOn l) (Int.toNat i)) (6 : Nat) D.nilp)), D.bool (asBool (List.getD (rowAt (rowsOn l) (Int.toNat i)) (7 : Nat) D.nilp))], Prg.of (Prg.cells p)) [A.agg [D.int IntKind.i64 (asInt (List.getD (rowAt (rowsOn l) (Int.toNat i)) (0 : Nat) D.nilp)), D.int IntKind.i64 (asInt (List.getD (rowAt (rowsOn l) (Int.toNat i)) (1 : Nat) D.nilp)), D.int IntKind.i64 (asInt (List.getD (rowAt (rowsOn l) (Int.toNat i)) (2 : Nat) D.nilp)), D.int IntKind.i64 (asInt (List.getD (rowAt (rowsOn l) (Int.toNat i)) (3 : Nat) D.nilp)), D.int IntKind.i64 (asInt (List.getD (rowAt (rowsOn l) (Int.toNat i)) (4 : Nat) D.nilp)), D.bool (asBool (List.getD (rowAt (rowsOn l) (Int.toNat i)) (5 : Nat) D.nilp)), D.bool (asBool (List.getD (rowAt (rowsOn l) (Int.toNat i)) (6 : Nat) D.nilp)), D.bool (asBool (List.getD (rowAt (rowsOn l) (Int.toNat i)) (7 : Nat) D.nilp))], A.c (D.rptr (Prg.cells p))])
 (VC.br (fenS (Prg.of (Prg.cells p)) (Row.of [D.int IntKind.i64 (asInt (List.getD (rowAt (rowsOn l) (Int.toNat i)) (0 : Nat) D.nilp)), D.int IntKind.i64 (asInt (List.getD (rowAt (rowsOn l) (Int.toNat i)) (1 : Nat) D.nilp)), D.int IntKind.i64 (asInt (List.getD (rowAt (rowsOn l) (Int.toNat i)) (2 : Nat) D.nilp)), D.int IntKind.i64 (asInt (List.getD (rowAt (rowsOn l) (Int.toNat i)) (3 : Nat) D.nilp)), D.int IntKind.i64 (asInt (List.getD (rowAt (rowsOn l) (Int.toNat i)) (4 : Nat) D.nilp)), D.bool (asBool (List.getD (rowAt (rowsOn l) (Int.toNat i)) (5 : Nat) D.nilp)), D.bool (asBool (List.getD (rowAt (rowsOn l) (Int.toNat i)) (6 : Nat) D.nilp)), D.bool (asBool (List.getD (rowAt (rowsOn l) (Int.toNat i)) (7 : Nat) D.nilp))]))
  (VC.ret (some (RR.c (Rc.d (D.int IntKind.i64 i)))))
  (FnA.at_ a_ixf 0 (F_ixf l p n (IntKind.wrap IntKind.i64 (i + (1 : Int)))))))))
 (VC.ret (some (RR.c (Rc.d (D.int IntKind.i64 (-1 : Int))))))) := by kernel_rfl
theorem l_ixf0 (l : List Ent) (p : Prg) (hl : l.length ≤ 1000000000) : ∀ i_ : Int, (fun (i : Int) => 0 ≤ i ∧ i ≤ l.length ∧ ixF p l (l.length - i.toNat) i.toNat = ixS p l) i_ → (a_ixf.at_ 0 ((fun (i : Int) => F_ixf l p l.length i) i_)).holds s_ixf.cx a_ixf.rs (fun r => r.le (ri (ixS p l))) := by
  refine loop_rule (a := a_ixf) (j := 0) (m := 400) s_ixf_sound (fun (i : Int) => F_ixf l p l.length i) (fun (i : Int) => 0 ≤ i ∧ i ≤ l.length ∧ ixF p l (l.length - i.toNat) i.toNat = ixS p l) (fun (i : Int) => ((l.length : Int) - i).toNat) ?_
  rintro i h_inv ih
  try dsimp only at h_inv
  show VC.holds _ _ _ (a_ixf.round s_ixf 400 0 (F_ixf l p l.length i))
  rw [t_ixf0]
  try simp only [asRows_sl, asInt_int, asBool_bool, asStr_str, listOf_rowsOn, List.drop_zero, Prg.eta, Sta.eta, rowsOn_length, getD_drop, Nat.reduceAdd, rd_int, rd_PMem_name, rd_PMem_secret, rd_PMem_n, rd_PLabel_name, rd_PLabel_at_, rd_Ins_kind, rd_Ins_op, rd_Ins_d, rd_Ins_aR, rd_Ins_aN, rd_Ins_bR, rd_Ins_bN, rd_Ins_name, rd_Ins_target, rd_Ent_pc, rd_Ent_val, rd_Ent_addr, rd_Ent_fro, rd_Ent_next, rd_Ent_done, rd_Ent_known, rd_Ent_fault, rd_Place_reg, rd_Place_n, rd_Place_secret, rd_Obs_kind, rd_Obs_at_, rd_Dir_kind, rd_Dir_n, Prg.of_cells, Sta.of_cells]
  obtain ⟨h0, h1, h2⟩ := h_inv
  have w1 : IntKind.wrap .i64 (i + 1) = i + 1 := wrap_small _ (by omega) (by omega)
  simp only [w1]
  have ei : ((i.toNat : Nat) : Int) = i := by omega
  refine br_dec (fun hd => ?_) (fun hd => ?_)
  · obtain ⟨k, hk⟩ : ∃ k, l.length - i.toNat = k + 1 := ⟨l.length - i.toNat - 1, by omega⟩
    rw [hk] at h2
    have hs : ixF p l (k + 1) i.toNat = if fenS p (rd l i) = true then i else ixF p l k (i.toNat + 1) := by
      show (if fenS p (rd l ((i.toNat : Nat) : Int)) = true then ((i.toNat : Nat) : Int) else _) = _
      rw [ei]
    rw [hs] at h2
    refine ⟨⟨h0, hd, by rw [rowAt_on l i h0 hd]; rfl⟩, okSh_ok _ l i (fun _ => rfl) h0 hd, PreOk.mk trivial rfl, br_holds (fun h => ?_) (fun h => ?_)⟩
    · have h : fenS p (rd l i) = true := h
      rw [if_pos h] at h2
      refine ret_le ?_
      rw [← h2]; exact RR.le_refl _
    · have h : fenS p (rd l i) = false := h
      rw [if_neg (by rw [h]; simp)] at h2
      exact ih _ ⟨by omega, by omega, by rw [← h2, show (i + 1).toNat = i.toNat + 1 by omega, show l.length - (i.toNat + 1) = k by omega]⟩ (by omega)
  · rw [show l.length - i.toNat = 0 by omega] at h2
    refine ret_le ?_
    rw [← h2]; exact RR.le_refl _
theorem c_ixf_good : c_ixf.fe.Good Try.prog := by
  refine FT.good c_ixf ⟨Try.f91, by kernel_rfl, by decide +kernel, by kernel_rfl⟩ (fun ⟨l, p⟩ => by first | rfl | simp [c_ixf, rrRef, rrun, rstep, rins, rnum, rby, rss, rnewI, rnewE, rstab, rplaces, ri, rb, rib, rE, Sta.fresh]) fun ⟨l, p⟩ hp => ?_
  refine acalls_le s_ixf_sound (fn := Try.f91) (a := a_ixf) (nargs := 2) (tbl := [(2, [0, 1, 7, 8])]) (by kernel_rfl) (by kernel_rfl) rfl (m := 400) ?_
  show VC.holds _ _ _ (a_ixf.start s_ixf 400 [aE l, aFn p])
  rw [t_ixf]
  try simp only [asRows_sl, asInt_int, asBool_bool, asStr_str, listOf_rowsOn, List.drop_zero, Prg.eta, Sta.eta, rowsOn_length, getD_drop, Nat.reduceAdd, rd_int, rd_PMem_name, rd_PMem_secret, rd_PMem_n, rd_PLabel_name, rd_PLabel_at_, rd_Ins_kind, rd_Ins_op, rd_Ins_d, rd_Ins_aR, rd_Ins_aN, rd_Ins_bR, rd_Ins_bN, rd_Ins_name, rd_Ins_target, rd_Ent_pc, rd_Ent_val, rd_Ent_addr, rd_Ent_fro, rd_Ent_next, rd_Ent_done, rd_Ent_known, rd_Ent_fault, rd_Place_reg, rd_Place_n, rd_Place_secret, rd_Obs_kind, rd_Obs_at_, rd_Dir_kind, rd_Dir_n, Prg.of_cells, Sta.of_cells]
  try simp only [c_ixf] at hp
  exact l_ixf0 l p hp 0 ⟨by omega, by omega, rfl⟩
def c_cof : FT (List Ent × Prg) := ⟨51, fun x => [aE x.1, aFn x.2], rdLF, fun x => x.1.length ≤ 1000000000, fun x => rb (decide (0 ≤ ixS x.2 x.1)), false, fun x => by simp [aE, aFn, rdLF]⟩
noncomputable def a_cof : FnA := (fnA Try.prog Try.f51 2 []).getD ⟨0, .skip, [], []⟩
def s_cof : Sp := spT [c_ixf.fe]
theorem s_cof_sound : s_cof.sound Try.prog := spT_sound fun e he => by
  simp only [List.mem_cons, List.not_mem_nil, or_false] at he
  rcases he with rfl
  · exact c_ixf_good
set_option maxRecDepth 100000 in
theorem t_cof (l : List Ent) (p : Prg) : a_cof.start s_cof 400 [aE l, aFn p] =
(VC.need (PreOk c_ixf (l, Prg.of (Prg.cells p)) [A.c (D.sl (rowsOn l)), A.c (D.fn (52 : Nat) [D.rptr (Prg.cells p)])])
(VC.ret (some (RR.c (Rc.d (D.bool (decide ((0 : Int) ≤ ixS (Prg.of (Prg.cells p)) (listOf Ent (rowsOn l)))))))))) := by kernel_rfl
theorem c_cof_good : c_cof.fe.Good Try.prog := by
  refine FT.good c_cof ⟨Try.f51, by kernel_rfl, by decide +kernel, by kernel_rfl⟩ (fun ⟨l, p⟩ => by first | rfl | simp [c_cof, rrRef, rrun, rstep, rins, rnum, rby, rss, rnewI, rnewE, rstab, rplaces, ri, rb, rib, rE, Sta.fresh]) fun ⟨l, p⟩ hp => ?_
  refine acalls_le s_cof_sound (fn := Try.f51) (a := a_cof) (nargs := 2) (tbl := []) (by kernel_rfl) (by kernel_rfl) rfl (m := 400) ?_
  show VC.holds _ _ _ (a_cof.start s_cof 400 [aE l, aFn p])
  rw [t_cof]
  try simp only [asRows_sl, asInt_int, asBool_bool, asStr_str, listOf_rowsOn, List.drop_zero, Prg.eta, Sta.eta, rowsOn_length, getD_drop, Nat.reduceAdd, rd_int, rd_PMem_name, rd_PMem_secret, rd_PMem_n, rd_PLabel_name, rd_PLabel_at_, rd_Ins_kind, rd_Ins_op, rd_Ins_d, rd_Ins_aR, rd_Ins_aN, rd_Ins_bR, rd_Ins_bN, rd_Ins_name, rd_Ins_target, rd_Ent_pc, rd_Ent_val, rd_Ent_addr, rd_Ent_fro, rd_Ent_next, rd_Ent_done, rd_Ent_known, rd_Ent_fault, rd_Place_reg, rd_Place_n, rd_Place_secret, rd_Obs_kind, rd_Obs_at_, rd_Dir_kind, rd_Dir_n, Prg.of_cells, Sta.of_cells]
  try simp only [c_cof] at hp
  exact ⟨PreOk.mk hp rfl, ret_le (RR.le_refl _)⟩
def rdPEI : List A → Prg × List Ent × Int
  | [.agg q, .c (.sl l), .c (.int _ i)] => (Prg.of q, listOf Ent l, i)
  | _ => default
def c_blk : FT (Prg × List Ent × Int) := ⟨22, fun x => [ap x.1, aE x.2.1, ai x.2.2], rdPEI, fun x => x.2.1.length ≤ 1000000000, fun x => rb (decide (0 ≤ ixS x.1 (cutS x.2.1 x.2.2))), false, fun x => by simp [ap, aE, ai, rdPEI]⟩
noncomputable def a_blk : FnA := (fnA Try.prog Try.f22 3 []).getD ⟨0, .skip, [], []⟩
def s_blk : Sp := spT [c_cut.fe, c_cof.fe]
theorem s_blk_sound : s_blk.sound Try.prog := spT_sound fun e he => by
  simp only [List.mem_cons, List.not_mem_nil, or_false] at he
  rcases he with rfl | rfl
  · exact c_cut_good
  · exact c_cof_good
set_option maxRecDepth 100000 in
theorem t_blk (p : Prg) (l : List Ent) (i : Int) : a_blk.start s_blk 400 [ap p, aE l, ai i] =
(VC.need (PreOk c_cut (l, i) [A.c (D.sl (rowsOn l)), A.c (D.int IntKind.i64 i)])
(VC.need (PreOk c_cof (cutS l i, Prg.of (Prg.cells p)) [A.c (D.sl (rowsOn (cutS (listOf Ent (rowsOn l)) i))), A.c (D.fn (52 : Nat) [D.rptr (Prg.cells p)])])
(VC.ret (some (RR.c (Rc.d (D.bool (decide ((0 : Int) ≤ ixS (Prg.of (Prg.cells p)) (listOf Ent (rowsOn (cutS (listOf Ent (rowsOn l)) i)))))))))))) := by kernel_rfl
theorem c_blk_good : c_blk.fe.Good Try.prog := by
  refine FT.good c_blk ⟨Try.f22, by kernel_rfl, by decide +kernel, by kernel_rfl⟩ (fun ⟨p, l, i⟩ => by first | rfl | simp [c_blk, rrRef, rrun, rstep, rins, rnum, rby, rss, rnewI, rnewE, rstab, rplaces, ri, rb, rib, rE, Sta.fresh]) fun ⟨p, l, i⟩ hp => ?_
  refine acalls_le s_blk_sound (fn := Try.f22) (a := a_blk) (nargs := 3) (tbl := []) (by kernel_rfl) (by kernel_rfl) rfl (m := 400) ?_
  show VC.holds _ _ _ (a_blk.start s_blk 400 [ap p, aE l, ai i])
  rw [t_blk]
  try simp only [asRows_sl, asInt_int, asBool_bool, asStr_str, listOf_rowsOn, List.drop_zero, Prg.eta, Sta.eta, rowsOn_length, getD_drop, Nat.reduceAdd, rd_int, rd_PMem_name, rd_PMem_secret, rd_PMem_n, rd_PLabel_name, rd_PLabel_at_, rd_Ins_kind, rd_Ins_op, rd_Ins_d, rd_Ins_aR, rd_Ins_aN, rd_Ins_bR, rd_Ins_bN, rd_Ins_name, rd_Ins_target, rd_Ent_pc, rd_Ent_val, rd_Ent_addr, rd_Ent_fro, rd_Ent_next, rd_Ent_done, rd_Ent_known, rd_Ent_fault, rd_Place_reg, rd_Place_n, rd_Place_secret, rd_Obs_kind, rd_Obs_at_, rd_Dir_kind, rd_Dir_n, Prg.of_cells, Sta.of_cells]
  try simp only [c_blk] at hp
  have hc := cutS_len l i
  exact ⟨PreOk.mk hp rfl, PreOk.mk (by dsimp only [c_cof] at hp ⊢; omega) rfl, ret_le (RR.le_refl _)⟩
/-- What a register holds, from the last ahead to the first. -/
def regK (p : Prg) (g : Regs) (r : Int) (l : List Ent) : Nat → Int × Bool
  | 0 => (g.get r, true)
  | k + 1 => if (destS (atS p.ins (rd l (k : Int)).pc)).2 = true ∧ (destS (atS p.ins (rd l (k : Int)).pc)).1 = r then (if (rd l (k : Int)).done = true then ((rd l (k : Int)).val, true) else (0, false)) else regK p g r l k
def regS (p : Prg) (g : Regs) (l : List Ent) (i r : Int) : Int × Bool := if r < 0 ∨ 4 ≤ r then (0, false) else regK p g r (cutS l i) (cutS l i).length
def rdReg : List A → Prg × Regs × List Ent × Int × Int
  | [.agg q, .agg [.int _ a, .int _ b, .int _ c, .int _ d], .c (.sl l), .c (.int _ i), .c (.int _ r)] => (Prg.of q, ⟨a, b, c, d⟩, listOf Ent l, i, r)
  | _ => default
def rdE0 : List A → List Ent × Unit
  | [.c (.sl l)] => (listOf Ent l, ())
  | _ => default
def c_bkE : FT (List Ent × Unit) := ⟨47, fun x => [aE x.1], rdE0, fun x => True, fun x => .c (.d (.fn 87 [.rptr [.sl (rowsOn x.1)]])), true, fun x => by simp [aE, rdE0]⟩
noncomputable def a_bkE : FnA := (fnA Try.prog Try.f47 1 []).getD ⟨0, .skip, [], []⟩
def s_bkE : Sp := spT []
theorem s_bkE_sound : s_bkE.sound Try.prog := spT_sound fun e he => by cases he
set_option maxRecDepth 100000 in
theorem t_bkE (l : List Ent) : a_bkE.start s_bkE 400 [aE l] =
(VC.ret (some (RR.c (Rc.d (D.fn (87 : Nat) [D.rptr [D.sl (rowsOn l)]]))))) := by kernel_rfl
theorem c_bkE_good : c_bkE.fe.Good Try.prog := by
  refine FT.good c_bkE ⟨Try.f47, by kernel_rfl, by decide +kernel, by kernel_rfl⟩ (fun ⟨l, u⟩ => by first | rfl | simp [c_bkE, rrRef, rrun, rstep, rins, rnum, rby, rss, rnewI, rnewE, rstab, rplaces, ri, rb, rib, rE, Sta.fresh]) fun ⟨l, u⟩ hp => ?_
  refine acalls_le s_bkE_sound (fn := Try.f47) (a := a_bkE) (nargs := 1) (tbl := []) (by kernel_rfl) (by kernel_rfl) rfl (m := 400) ?_
  show VC.holds _ _ _ (a_bkE.start s_bkE 400 [aE l])
  rw [t_bkE]
  try simp only [asRows_sl, asInt_int, asBool_bool, asStr_str, listOf_rowsOn, List.drop_zero, Prg.eta, Sta.eta, rowsOn_length, getD_drop, Nat.reduceAdd, rd_int, rd_PMem_name, rd_PMem_secret, rd_PMem_n, rd_PLabel_name, rd_PLabel_at_, rd_Ins_kind, rd_Ins_op, rd_Ins_d, rd_Ins_aR, rd_Ins_aN, rd_Ins_bR, rd_Ins_bN, rd_Ins_name, rd_Ins_target, rd_Ent_pc, rd_Ent_val, rd_Ent_addr, rd_Ent_fro, rd_Ent_next, rd_Ent_done, rd_Ent_known, rd_Ent_fault, rd_Place_reg, rd_Place_n, rd_Place_secret, rd_Obs_kind, rd_Obs_at_, rd_Dir_kind, rd_Dir_n, Prg.of_cells, Sta.of_cells]
  try simp only [c_bkE] at hp
  repeat' first
    | refine br_not ?_
    | refine br_dec (fun _ => ?_) (fun _ => ?_)
    | refine br_beq (fun _ => ?_) (fun _ => ?_)
    | refine br_bne (fun _ => ?_) (fun _ => ?_)
    | refine br_holds (fun _ => ?_) (fun _ => ?_)
    | refine ⟨PreOk.mk ?_ rfl, ?_⟩
    | refine ⟨idx_ok _ _ _ rfl (by omega) (by omega), ?_⟩
    | refine ⟨okSh_ok _ _ _ (fun _ => rfl) (by omega) (by omega), ?_⟩
    | refine ⟨okSh_okD _ _ _ _ (fun _ => rfl) (by omega) (by omega), ?_⟩
    | refine ⟨aload_ok _ _ rfl (fun _ => rfl) (by omega) (by omega), ?_⟩
    | refine ⟨aload_okD _ _ _ rfl (fun _ => rfl) (by omega) (by omega), ?_⟩
    | refine ⟨astore_ok (by assumption) rfl (by omega) (by omega) (by decide), ?_⟩
    | refine ⟨app_ok (by assumption) rfl rfl (by simp only [List.length_cons, List.length_nil]; omega), ?_⟩
    | refine need_holds ?_ fun _ => ?_
    | refine all_holds fun y hy => ?_
    | refine ret_le ?_
  exact RR.le_refl _
noncomputable def v_dest : Ins × Unit → Int × Bool := fun x => destS x.1
noncomputable def sh_dest : Int × Bool → RR := fun y => rib y
theorem e_dest (x : Ins × Unit) : sh_dest (v_dest x) = c_dest.ans x := rfl
noncomputable def a_reg : FnA := (fnAT Try.prog [832] Try.f16 5 []).getD ⟨0, .skip, [], []⟩
def B_reg (p : Prg) (g : Regs) (r : Int) : St := ⟨[], [(832, ⟨0, false, .dead⟩), (320, bx p.cells), (384, bx [.int .i64 g.r0, .int .i64 g.r1, .int .i64 g.r2, .int .i64 g.r3]), (576, bx [.int .i64 r]), (640, bx [.int .i64 0]), (704, bx [.bool false])]⟩
def F_reg (p : Prg) (g : Regs) (l : List (List D)) (i r : Int) (b c : Bool) (C Z : List (List D)) : St := ⟨mkS 50 [(0, .agg [.d (.int .i64 p.w), .d (.int .i64 p.window), .d (.int .i64 p.fuel), .d (.int .i64 p.r0), .d (.int .i64 p.r1), .d (.int .i64 p.r2), .d (.int .i64 p.r3), .d (.sl (rowsOn p.mems)), .d (.sl (rowsOn p.labels)), .d (.sl (rowsOn p.ins))]), (1, .agg [.d (.int .i64 g.r0), .d (.int .i64 g.r1), .d (.int .i64 g.r2), .d (.int .i64 g.r3)]), (2, vr l), (3, vi i), (4, vi r), (5, vp 320), (6, vp 384), (9, vp 576), (10, vp 640), (11, vp 704), (16, vi r), (17, .c (.d (.bool b))), (18, .c (.d (.bool false))), (19, vi r), (20, .c (.d (.bool c))), (21, .c (.d (.bool false))), (22, vr l), (23, vi i), (24, vr C), (25, .c (.d (.fn 87 [.rptr [.sl Z]])))], [(832, ⟨0, false, .dead⟩), (320, bx p.cells), (384, bx [.int .i64 g.r0, .int .i64 g.r1, .int .i64 g.r2, .int .i64 g.r3]), (576, bx [.int .i64 r]), (640, bx [.int .i64 0]), (704, bx [.bool false])]⟩
theorem back_okE (l : List Ent) (h : l.length ≤ 1000000000) : okBack (some 8) (rowsOn l) = true := by
  unfold okBack
  rw [Bool.and_eq_true]
  exact ⟨rowsOn_all l 8 rfl, decide_eq_true (by rw [rowsOn_length]; omega)⟩
def rdVal : List A → Prg × Regs × List Ent × Int × Bool × Int
  | [.agg q, .agg [.int _ a, .int _ b, .int _ c, .int _ d], .c (.sl l), .c (.int _ i), .agg [.bool r, .int _ n]] => (Prg.of q, ⟨a, b, c, d⟩, listOf Ent l, i, r, n)
  | _ => default
def valS2 (p : Prg) (g : Regs) (l : List Ent) (i : Int) (b : Bool) (n : Int) : Int × Bool := if b then regS p g l i n else (maskS p.w n, true)
noncomputable def a_rval : FnA := (fnA Try.prog Try.f20 5 []).getD ⟨0, .skip, [], []⟩
end Go.Proofs.Ytmhfhobaicklmaa.Ax
end

section
/- Layers 9 to 18, by the document: what a register holds, who waits, what a load finds. -/
namespace Go.Proofs.Ytmhfhobaicklmaa.Ax
open Go.RowKit
set_option linter.unusedVariables false
set_option linter.unusedSimpArgs false
def c_r9Dest : FT (Ins × Unit) := ⟨24, fun x => [aIns x.1], rdIns, fun _ => True, fun x => rib (destS x.1), false, fun x => by simp [aIns, rdIns]; rfl⟩
noncomputable def a_r9Dest : FnA := (fnA Try.prog Try.f24 1 []).getD ⟨0, .skip, [], []⟩
def s_r9Dest : Sp := spT []
theorem s_r9Dest_sound : s_r9Dest.sound Try.prog := spT_sound fun e he => by cases he
set_option maxRecDepth 100000 in
theorem t_r9Dest (x : Ins) : a_r9Dest.start s_r9Dest 400 [aIns x] =
(VC.br (x.kind == (1 : Int))
 (VC.ret (some (RR.tup [Sum.inl (Rc.d (D.int IntKind.i64 x.d)), Sum.inl (Rc.d (D.bool true))])))
 (VC.br (x.kind == (2 : Int))
  (VC.ret (some (RR.tup [Sum.inl (Rc.d (D.int IntKind.i64 x.d)), Sum.inl (Rc.d (D.bool true))])))
  (VC.br (x.kind == (4 : Int))
   (VC.ret (some (RR.tup [Sum.inl (Rc.d (D.int IntKind.i64 x.d)), Sum.inl (Rc.d (D.bool true))])))
   (VC.ret (some (RR.tup [Sum.inl (Rc.d (D.int IntKind.i64 (0 : Int))), Sum.inl (Rc.d (D.bool false))])))))) := by kernel_rfl
theorem c_r9Dest_good : c_r9Dest.fe.Good Try.prog := by
  refine FT.good c_r9Dest ⟨Try.f24, by kernel_rfl, by decide +kernel, by kernel_rfl⟩ (fun ⟨x, u⟩ => by first | rfl | simp [c_r9Dest, rrRef, rE, rrun, rstep, rins, rnum, rby, rss, rnewI, rnewE, rstab, rplaces, ri, rb, rib, Sta.fresh]) fun ⟨x, u⟩ hp => ?_
  refine acalls_le s_r9Dest_sound (fn := Try.f24) (a := a_r9Dest) (nargs := 1) (tbl := []) (by kernel_rfl) (by kernel_rfl) rfl (m := 400) ?_
  show VC.holds _ _ _ (a_r9Dest.start s_r9Dest 400 [aIns x])
  rw [t_r9Dest]
  try simp only [asRows_sl, asInt_int, asBool_bool, asStr_str, listOf_rowsOn, List.drop_zero, Prg.eta, Sta.eta, rowsOn_length, getD_drop, Nat.reduceAdd, rd_int, rd_PMem_name, rd_PMem_secret, rd_PMem_n, rd_PLabel_name, rd_PLabel_at_, rd_Ins_kind, rd_Ins_op, rd_Ins_d, rd_Ins_aR, rd_Ins_aN, rd_Ins_bR, rd_Ins_bN, rd_Ins_name, rd_Ins_target, rd_Ent_pc, rd_Ent_val, rd_Ent_addr, rd_Ent_fro, rd_Ent_next, rd_Ent_done, rd_Ent_known, rd_Ent_fault, rd_Place_reg, rd_Place_n, rd_Place_secret, rd_Obs_kind, rd_Obs_at_, rd_Dir_kind, rd_Dir_n, Prg.of_cells, Sta.of_cells]
  try simp only [c_r9Dest] at hp
  have e : c_r9Dest.ans (x, u) = rib (destS x) := rfl
  rw [e]
  unfold destS
  refine br_beq (fun h => ?_) (fun h1 => br_beq (fun h => ?_) (fun h2 => br_beq (fun h => ?_) (fun h3 => ?_)))
  · rw [if_pos (.inl h)]; exact ret_le (RR.le_refl _)
  · rw [if_pos (.inr (.inl h))]; exact ret_le (RR.le_refl _)
  · rw [if_pos (.inr (.inr h))]; exact ret_le (RR.le_refl _)
  · rw [if_neg (by omega)]; exact ret_le (RR.le_refl _)
noncomputable def v_r9Dest : Ins × Unit → Int × Bool := fun x => destS x.1
noncomputable def sh_r9Dest : Int × Bool → RR := fun y => rib y
theorem e_r9Dest (x : Ins × Unit) : sh_r9Dest (v_r9Dest x) = c_r9Dest.ans x := rfl
def c_r9Reg : FT (Prg × Regs × List Ent × Int × Int) := ⟨19, fun x => [ap x.1, aRegs x.2.1, aE x.2.2.1, ai x.2.2.2.1, ai x.2.2.2.2], rdReg, fun x => x.2.2.1.length ≤ 1000000000, fun x => rib (regS x.1 x.2.1 x.2.2.1 x.2.2.2.1 x.2.2.2.2), false, fun x => by simp [ap, aRegs, aE, ai, rdReg]⟩
noncomputable def a_r9Reg : FnA := (fnA Try.prog Try.f19 5 [(4, [2, 4, 5, 6, 12])]).getD ⟨0, .skip, [], []⟩
noncomputable def s_r9Reg : Sp := spT [c_r9Dest.gfe v_r9Dest sh_r9Dest e_r9Dest, c_rAt.gfe v_rAt sh_rAt e_rAt]
theorem s_r9Reg_sound : s_r9Reg.sound Try.prog := spT_sound fun e he => by
  simp only [List.mem_cons, List.not_mem_nil, or_false] at he
  rcases he with rfl | rfl
  · exact FT.gfe_good c_r9Dest_good
  · exact FT.gfe_good c_rAt_good
def F_r9r (p : Prg) (g : Regs) (l : List Ent) (r k : Int) : St := ⟨mkS 62 [(2, vr (rowsOn l)), (4, vi r), (5, vp 320), (6, vp 384), (12, vi k)], [(320, bx p.cells), (384, bx [.int .i64 g.r0, .int .i64 g.r1, .int .i64 g.r2, .int .i64 g.r3])]⟩
set_option maxRecDepth 100000 in
theorem t_r9Reg (p : Prg) (g : Regs) (l : List Ent) (i r : Int) : a_r9Reg.start s_r9Reg 400 [ap p, aRegs g, aE l, ai i, ai r] =
(VC.br (decide (r < (0 : Int)))
 (VC.ret (some (RR.tup [Sum.inl (Rc.d (D.int IntKind.i64 (0 : Int))), Sum.inl (Rc.d (D.bool false))])))
 (VC.br (decide ((3 : Int) < r))
  (VC.ret (some (RR.tup [Sum.inl (Rc.d (D.int IntKind.i64 (0 : Int))), Sum.inl (Rc.d (D.bool false))])))
  (FnA.at_ a_r9Reg 0 (F_r9r p g l r (IntKind.wrap IntKind.i64 (min (max i (0 : Int)) (↑(List.length (rowsOn l)) : Int) - (1 : Int))))))) := by kernel_rfl
set_option maxRecDepth 100000 in
theorem t_r9r0 (p : Prg) (g : Regs) (l : List Ent) (r k : Int) : a_r9Reg.round s_r9Reg 400 0 (F_r9r p g l r k) =
(VC.br (decide ((0 : Int) ≤ k))
 (VC.need ((0 : Int) ≤ k ∧ k < (↑(List.length (rowsOn l)) : Int) ∧ List.length (rowAt (rowsOn l) (Int.toNat k)) = (8 : Nat))
 (VC.need (okSh [Kd.int IntKind.i64] (List.drop (0 : Nat) (rowAt (rowsOn l) (Int.toNat k))))
 (VC.need (PreOk c_rAt (Prg.of (Prg.cells p), asInt (List.getD (List.drop (0 : Nat) (rowAt (rowsOn l) (Int.toNat k))) (0 : Nat) D.nilp)) [A.agg (Prg.cells p), A.c (D.int IntKind.i64 (asInt (List.getD (List.drop (0 : Nat) (rowAt (rowsOn l) (Int.toNat k))) (0 : Nat) D.nilp)))])
 (VC.all (v_rAt (Prg.of (Prg.cells p), asInt (List.getD (List.drop (0 : Nat) (rowAt (rowsOn l) (Int.toNat k))) (0 : Nat) D.nilp))) fun (y5 : Ins) =>
 (VC.need (PreOk c_r9Dest (Row.of [D.int IntKind.i64 y5.kind, D.int IntKind.i64 y5.op, D.int IntKind.i64 y5.d, D.bool y5.aR, D.int IntKind.i64 y5.aN, D.bool y5.bR, D.int IntKind.i64 y5.bN, D.str y5.name, D.int IntKind.i64 y5.target], ()) [A.agg [D.int IntKind.i64 y5.kind, D.int IntKind.i64 y5.op, D.int IntKind.i64 y5.d, D.bool y5.aR, D.int IntKind.i64 y5.aN, D.bool y5.bR, D.int IntKind.i64 y5.bN, D.str y5.name, D.int IntKind.i64 y5.target]])
 (VC.all (v_r9Dest (Row.of [D.int IntKind.i64 y5.kind, D.int IntKind.i64 y5.op, D.int IntKind.i64 y5.d, D.bool y5.aR, D.int IntKind.i64 y5.aN, D.bool y5.bR, D.int IntKind.i64 y5.bN, D.str y5.name, D.int IntKind.i64 y5.target], ())) fun (y6 : Int × Bool) =>
 (VC.br (y6.snd)
  (VC.br (y6.fst == r)
   (VC.need ((0 : Int) ≤ k ∧ k < (↑(List.length (rowsOn l)) : Int) ∧ List.length (rowAt (rowsOn l) (Int.toNat k)) = (8 : Nat))
   (VC.need (okSh [Kd.bool] (List.drop (5 : Nat) (rowAt (rowsOn l) (Int.toNat k))))
   (VC.br (!asBool (List.getD (List.drop (5 : Nat) (rowAt (rowsOn l) (Int.toNat k))) (0 : Nat) D.nilp))
    (VC.ret (some (RR.tup [Sum.inl (Rc.d (D.int IntKind.i64 (0 : Int))), Sum.inl (Rc.d (D.bool false))])))
    (VC.need ((0 : Int) ≤ k ∧ k < (↑(List.length (rowsOn l)) : Int) ∧ List.length (rowAt (rowsOn l) (Int.toNat k)) = (8 : Nat))
    (VC.need (okSh [Kd.int IntKind.i64] (List.drop (1 : Nat) (rowAt (rowsOn l) (Int.toNat k))))
    (VC.ret (some (RR.tup [Sum.inl (Rc.d (D.int IntKind.i64 (asInt (List.getD (List.drop (1 : Nat) (rowAt (rowsOn l) (Int.toNat k))) (0 : Nat) D.nilp)))), Sum.inl (Rc.d (D.bool true))]))))))))
   (FnA.at_ a_r9Reg 0 (F_r9r p g l r (IntKind.wrap IntKind.i64 (k - (1 : Int))))))
  (FnA.at_ a_r9Reg 0 (F_r9r p g l r (IntKind.wrap IntKind.i64 (k - (1 : Int))))))))))))
 (VC.br (decide (r = (0 : Int)))
  (VC.ret (some (RR.tup [Sum.inl (Rc.d (D.int IntKind.i64 g.r0)), Sum.inl (Rc.d (D.bool true))])))
  (VC.br (decide (r = (1 : Int)))
   (VC.ret (some (RR.tup [Sum.inl (Rc.d (D.int IntKind.i64 g.r1)), Sum.inl (Rc.d (D.bool true))])))
   (VC.br (decide (r = (2 : Int)))
    (VC.ret (some (RR.tup [Sum.inl (Rc.d (D.int IntKind.i64 g.r2)), Sum.inl (Rc.d (D.bool true))])))
    (VC.br (decide (r = (3 : Int)))
     (VC.ret (some (RR.tup [Sum.inl (Rc.d (D.int IntKind.i64 g.r3)), Sum.inl (Rc.d (D.bool true))])))
     VC.ff))))) := by kernel_rfl
theorem rd_getE (l : List Ent) (k : Nat) (h : k < l.length) : rd l (k : Int) = l[k] := by
  unfold rd
  rw [Int.toNat_natCast, List.getD_eq_getElem?_getD, List.getElem?_eq_getElem h]
  rfl
theorem regK_take (p : Prg) (g : Regs) (r : Int) (l : List Ent) (m : Nat) : ∀ k : Nat, k ≤ m → k ≤ l.length → regK p g r (l.take m) k = regK p g r l k
  | 0, _, _ => rfl
  | k + 1, h1, h2 => by
    have ih := regK_take p g r l m k (by omega) (by omega)
    unfold regK
    rw [ih, rd_getE _ k (by simp; omega), rd_getE l k (by omega), List.getElem_take]
theorem cutS_len2 (l : List Ent) (i : Int) : ((cutS l i).length : Int) = min (max i 0) l.length := by simp only [cutS, List.length_take]; omega
theorem ent_ok (l : List Ent) (k : Int) (h0 : 0 ≤ k) (h : k < l.length) : 0 ≤ k ∧ k < (l.length : Int) ∧ (rowAt (rowsOn l) k.toNat).length = 8 := ⟨h0, h, by rw [rowAt_on l k h0 h]; rfl⟩
theorem l_r9r0 (p : Prg) (g : Regs) (l : List Ent) (r : Int) (fin : Int × Bool) (hl : l.length ≤ 1000000000) (h3 : 0 ≤ r) (h4 : r < 4) : ∀ i_ : Int, (fun (k : Int) => -1 ≤ k ∧ k < l.length ∧ regK p g r l (k + 1).toNat = fin) i_ → (a_r9Reg.at_ 0 ((fun (k : Int) => F_r9r p g l r k) i_)).holds s_r9Reg.cx a_r9Reg.rs (fun x => x.le (rib fin)) := by
  refine loop_rule (a := a_r9Reg) (j := 0) (m := 400) s_r9Reg_sound (fun (k : Int) => F_r9r p g l r k) (fun (k : Int) => -1 ≤ k ∧ k < l.length ∧ regK p g r l (k + 1).toNat = fin) (fun (k : Int) => (k + 1).toNat) ?_
  rintro k h_inv ih
  try dsimp only at h_inv
  show VC.holds _ _ _ (a_r9Reg.round s_r9Reg 400 0 (F_r9r p g l r k))
  rw [t_r9r0]
  try simp only [asRows_sl, asInt_int, asBool_bool, asStr_str, listOf_rowsOn, List.drop_zero, Prg.eta, Sta.eta, rowsOn_length, getD_drop, Nat.reduceAdd, rd_int, rd_PMem_name, rd_PMem_secret, rd_PMem_n, rd_PLabel_name, rd_PLabel_at_, rd_Ins_kind, rd_Ins_op, rd_Ins_d, rd_Ins_aR, rd_Ins_aN, rd_Ins_bR, rd_Ins_bN, rd_Ins_name, rd_Ins_target, rd_Ent_pc, rd_Ent_val, rd_Ent_addr, rd_Ent_fro, rd_Ent_next, rd_Ent_done, rd_Ent_known, rd_Ent_fault, rd_Place_reg, rd_Place_n, rd_Place_secret, rd_Obs_kind, rd_Obs_at_, rd_Dir_kind, rd_Dir_n, Prg.of_cells, Sta.of_cells]
  obtain ⟨k0, k1, k2⟩ := h_inv
  have w1 : IntKind.wrap .i64 (k - 1) = k - 1 := wrap_small _ (by omega) (by omega)
  simp only [w1]
  refine br_dec (fun hd => ?_) (fun hd => ?_)
  · have e : (k + 1).toNat = k.toNat + 1 := by omega
    have ek : ((k.toNat : Nat) : Int) = k := by omega
    rw [e] at k2
    unfold regK at k2
    rw [ek] at k2
    have nxt : regK p g r l k.toNat = fin → (a_r9Reg.at_ 0 (F_r9r p g l r (k - 1))).holds s_r9Reg.cx a_r9Reg.rs fun x => x.le (rib fin) := fun h => ih _ ⟨by omega, by omega, by rw [show k - 1 + 1 = k by omega]; exact h⟩ (by omega)
    have g1 := ent_ok l k hd k1
    refine ⟨g1, by rw [rowAt_on l k hd k1]; rfl, PreOk.mk trivial rfl, all_holds fun y hy => ⟨PreOk.mk trivial rfl, all_holds fun z hz => ?_⟩⟩
    replace hy : y = atS p.ins (rd l k).pc := hy
    replace hz : z = destS y := hz
    rw [← hy, ← hz] at k2
    refine br_holds (fun h1 => br_beq (fun h2 => ?_) (fun h2 => ?_)) (fun h1 => ?_)
    · rw [if_pos ⟨h1, h2⟩] at k2
      refine ⟨g1, by rw [rowAt_on l k hd k1]; rfl, br_not (br_holds (fun h5 => ?_) (fun h5 => ?_))⟩
      · rw [if_pos h5] at k2
        subst k2
        exact ⟨g1, by rw [rowAt_on l k hd k1]; rfl, ret_le (RR.le_refl _)⟩
      · rw [if_neg (by rw [h5]; simp)] at k2
        subst k2
        exact ret_le (RR.le_refl _)
    · rw [if_neg (fun q => h2 q.2)] at k2; exact nxt k2
    · rw [if_neg (fun q => by rw [h1] at q; cases q.1)] at k2; exact nxt k2
  · rw [show (k + 1).toNat = 0 by omega] at k2
    subst k2
    unfold regK Regs.get
    refine br_dec (fun e => ?_) (fun e0 => br_dec (fun e => ?_) (fun e1 => br_dec (fun e => ?_) (fun e2 => br_dec (fun e => ?_) (fun e3 => by omega))))
    · rw [if_pos e]; exact ret_le (RR.le_refl _)
    · rw [if_neg e0, if_pos e]; exact ret_le (RR.le_refl _)
    · rw [if_neg e0, if_neg e1, if_pos e]; exact ret_le (RR.le_refl _)
    · rw [if_neg e0, if_neg e1, if_neg e2]; exact ret_le (RR.le_refl _)
theorem c_r9Reg_good : c_r9Reg.fe.Good Try.prog := by
  refine FT.good c_r9Reg ⟨Try.f19, by kernel_rfl, by decide +kernel, by kernel_rfl⟩ (fun ⟨p, g, l, i, r⟩ => by first | rfl | simp [c_r9Reg, rrRef, rE, rrun, rstep, rins, rnum, rby, rss, rnewI, rnewE, rstab, rplaces, ri, rb, rib, Sta.fresh]) fun ⟨p, g, l, i, r⟩ hp => ?_
  refine acalls_le s_r9Reg_sound (fn := Try.f19) (a := a_r9Reg) (nargs := 5) (tbl := [(4, [2, 4, 5, 6, 12])]) (by kernel_rfl) (by kernel_rfl) rfl (m := 400) ?_
  show VC.holds _ _ _ (a_r9Reg.start s_r9Reg 400 [ap p, aRegs g, aE l, ai i, ai r])
  rw [t_r9Reg]
  try simp only [asRows_sl, asInt_int, asBool_bool, asStr_str, listOf_rowsOn, List.drop_zero, Prg.eta, Sta.eta, rowsOn_length, getD_drop, Nat.reduceAdd, rd_int, rd_PMem_name, rd_PMem_secret, rd_PMem_n, rd_PLabel_name, rd_PLabel_at_, rd_Ins_kind, rd_Ins_op, rd_Ins_d, rd_Ins_aR, rd_Ins_aN, rd_Ins_bR, rd_Ins_bN, rd_Ins_name, rd_Ins_target, rd_Ent_pc, rd_Ent_val, rd_Ent_addr, rd_Ent_fro, rd_Ent_next, rd_Ent_done, rd_Ent_known, rd_Ent_fault, rd_Place_reg, rd_Place_n, rd_Place_secret, rd_Obs_kind, rd_Obs_at_, rd_Dir_kind, rd_Dir_n, Prg.of_cells, Sta.of_cells]
  try simp only [c_r9Reg] at hp
  have hp : l.length ≤ 1000000000 := hp
  have e : c_r9Reg.ans (p, g, l, i, r) = rib (regS p g l i r) := rfl
  rw [e]
  unfold regS
  refine br_dec (fun h => ?_) (fun h0 => br_dec (fun h => ?_) (fun h4 => ?_))
  · rw [if_pos (.inl h)]; exact ret_le (RR.le_refl _)
  · rw [if_pos (.inr (by omega))]; exact ret_le (RR.le_refl _)
  rw [if_neg (by omega)]
  have hc := cutS_len2 l i
  have w1 : IntKind.wrap .i64 (min (max i 0) (l.length : Int) - 1) = ((cutS l i).length : Int) - 1 := by rw [wrap_small _ (by omega) (by omega)]; omega
  rw [w1]
  have et : regK p g r (cutS l i) (cutS l i).length = regK p g r l (cutS l i).length := by
    have := cutS_len l i
    show regK p g r (l.take _) (cutS l i).length = _
    exact regK_take p g r l _ _ (by omega) (by omega)
  rw [et]
  exact l_r9r0 p g l r _ hp (by omega) (by omega) (((cutS l i).length : Int) - 1) ⟨by omega, by omega, by rw [show (((cutS l i).length : Int) - 1 + 1).toNat = (cutS l i).length by omega]⟩
noncomputable def v_r9Reg : Prg × Regs × List Ent × Int × Int → Int × Bool := fun x => regS x.1 x.2.1 x.2.2.1 x.2.2.2.1 x.2.2.2.2
noncomputable def sh_r9Reg : Int × Bool → RR := fun y => rib y
theorem e_r9Reg (x : Prg × Regs × List Ent × Int × Int) : sh_r9Reg (v_r9Reg x) = c_r9Reg.ans x := rfl
def c_r9Val : FT (Prg × Regs × List Ent × Int × Bool × Int) := ⟨21, fun x => [ap x.1, aRegs x.2.1, aE x.2.2.1, ai x.2.2.2.1, aVal x.2.2.2.2.1 x.2.2.2.2.2], rdVal, fun x => x.2.2.1.length ≤ 1000000000, fun x => rib (valS2 x.1 x.2.1 x.2.2.1 x.2.2.2.1 x.2.2.2.2.1 x.2.2.2.2.2), false, fun x => by simp [ap, aRegs, aE, ai, aVal, rdVal]⟩
noncomputable def a_r9Val : FnA := (fnA Try.prog Try.f21 5 []).getD ⟨0, .skip, [], []⟩
noncomputable def s_r9Val : Sp := spT [c_r9Reg.gfe v_r9Reg sh_r9Reg e_r9Reg, c_rMask.fe]
theorem s_r9Val_sound : s_r9Val.sound Try.prog := spT_sound fun e he => by
  simp only [List.mem_cons, List.not_mem_nil, or_false] at he
  rcases he with rfl | rfl
  · exact FT.gfe_good c_r9Reg_good
  · exact c_rMask_good
set_option maxRecDepth 100000 in
theorem t_r9Val (p : Prg) (g : Regs) (l : List Ent) (i : Int) (b : Bool) (n : Int) : a_r9Val.start s_r9Val 400 [ap p, aRegs g, aE l, ai i, aVal b n] =
(VC.br (b)
 (VC.need (PreOk c_r9Reg (Prg.of (Prg.cells p), g, l, i, n) [A.agg (Prg.cells p), A.agg [D.int IntKind.i64 g.r0, D.int IntKind.i64 g.r1, D.int IntKind.i64 g.r2, D.int IntKind.i64 g.r3], A.c (D.sl (rowsOn l)), A.c (D.int IntKind.i64 i), A.c (D.int IntKind.i64 n)])
 (VC.all (v_r9Reg (Prg.of (Prg.cells p), { r0 := g.r0, r1 := g.r1, r2 := g.r2, r3 := g.r3 }, listOf Ent (rowsOn l), i, n)) fun (y6 : Int × Bool) =>
 (VC.ret (some (RR.tup [Sum.inl (Rc.d (D.int IntKind.i64 y6.fst)), Sum.inl (Rc.d (D.bool y6.snd))])))))
 (VC.need (PreOk c_rMask (p.w, n) [A.c (D.int IntKind.i64 p.w), A.c (D.int IntKind.i64 n)])
 (VC.ret (some (RR.tup [Sum.inl (Rc.d (D.int IntKind.i64 (maskS p.w n))), Sum.inl (Rc.d (D.bool true))]))))) := by kernel_rfl
theorem c_r9Val_good : c_r9Val.fe.Good Try.prog := by
  refine FT.good c_r9Val ⟨Try.f21, by kernel_rfl, by decide +kernel, by kernel_rfl⟩ (fun ⟨p, g, l, i, b, n⟩ => by first | rfl | simp [c_r9Val, rrRef, rE, rrun, rstep, rins, rnum, rby, rss, rnewI, rnewE, rstab, rplaces, ri, rb, rib, Sta.fresh]) fun ⟨p, g, l, i, b, n⟩ hp => ?_
  refine acalls_le s_r9Val_sound (fn := Try.f21) (a := a_r9Val) (nargs := 5) (tbl := []) (by kernel_rfl) (by kernel_rfl) rfl (m := 400) ?_
  show VC.holds _ _ _ (a_r9Val.start s_r9Val 400 [ap p, aRegs g, aE l, ai i, aVal b n])
  rw [t_r9Val]
  try simp only [asRows_sl, asInt_int, asBool_bool, asStr_str, listOf_rowsOn, List.drop_zero, Prg.eta, Sta.eta, rowsOn_length, getD_drop, Nat.reduceAdd, rd_int, rd_PMem_name, rd_PMem_secret, rd_PMem_n, rd_PLabel_name, rd_PLabel_at_, rd_Ins_kind, rd_Ins_op, rd_Ins_d, rd_Ins_aR, rd_Ins_aN, rd_Ins_bR, rd_Ins_bN, rd_Ins_name, rd_Ins_target, rd_Ent_pc, rd_Ent_val, rd_Ent_addr, rd_Ent_fro, rd_Ent_next, rd_Ent_done, rd_Ent_known, rd_Ent_fault, rd_Place_reg, rd_Place_n, rd_Place_secret, rd_Obs_kind, rd_Obs_at_, rd_Dir_kind, rd_Dir_n, Prg.of_cells, Sta.of_cells]
  try simp only [c_r9Val] at hp
  have e : c_r9Val.ans (p, g, l, i, b, n) = rib (valS2 p g l i b n) := rfl
  rw [e]
  unfold valS2
  refine br_holds (fun h => ?_) (fun h => ?_)
  · rw [if_pos h]
    refine ⟨PreOk.mk hp rfl, all_holds fun y hy => ret_le ?_⟩
    subst hy
    exact RR.le_refl _
  · rw [if_neg (by rw [h]; simp)]
    exact ⟨PreOk.mk trivial rfl, ret_le (RR.le_refl _)⟩
noncomputable def v_r9Val : Prg × Regs × List Ent × Int × Bool × Int → Int × Bool := fun x => valS2 x.1 x.2.1 x.2.2.1 x.2.2.2.1 x.2.2.2.2.1 x.2.2.2.2.2
noncomputable def sh_r9Val : Int × Bool → RR := fun y => rib y
theorem e_r9Val (x : Prg × Regs × List Ent × Int × Bool × Int) : sh_r9Val (v_r9Val x) = c_r9Val.ans x := rfl
def c_r9Blk : FT (Prg × List Ent × Int) := ⟨23, fun x => [ap x.1, aE x.2.1, ai x.2.2], rdPEI, fun x => x.2.1.length ≤ 1000000000, fun x => rb (decide (0 ≤ ixS x.1 (cutS x.2.1 x.2.2))), false, fun x => by simp [ap, aE, ai, rdPEI]⟩
noncomputable def a_r9Blk : FnA := (fnA Try.prog Try.f23 3 [(2, [1, 2, 3, 7])]).getD ⟨0, .skip, [], []⟩
noncomputable def s_r9Blk : Sp := spT [c_rAt.gfe v_rAt sh_rAt e_rAt]
theorem s_r9Blk_sound : s_r9Blk.sound Try.prog := spT_sound fun e he => by
  simp only [List.mem_cons, List.not_mem_nil, or_false] at he
  rcases he with rfl
  · exact FT.gfe_good c_rAt_good
def F_r9b (p : Prg) (l : List Ent) (i k : Int) : St := ⟨mkS 28 [(1, vr (rowsOn l)), (2, vi i), (3, vp 192), (7, vi k)], [(192, bx p.cells)]⟩
set_option maxRecDepth 100000 in
theorem t_r9Blk (p : Prg) (l : List Ent) (i : Int) : a_r9Blk.start s_r9Blk 400 [ap p, aE l, ai i] =
(FnA.at_ a_r9Blk 0 (F_r9b p l i (0 : Int))) := by kernel_rfl
set_option maxRecDepth 100000 in
theorem t_r9b0 (p : Prg) (l : List Ent) (i k : Int) : a_r9Blk.round s_r9Blk 400 0 (F_r9b p l i k) =
(VC.br (decide (k < i))
 (VC.br (decide (k < (↑(List.length (rowsOn l)) : Int)))
  (VC.need ((0 : Int) ≤ k ∧ k < (↑(List.length (rowsOn l)) : Int) ∧ List.length (rowAt (rowsOn l) (Int.toNat k)) = (8 : Nat))
  (VC.need (okSh [Kd.int IntKind.i64] (List.drop (0 : Nat) (rowAt (rowsOn l) (Int.toNat k))))
  (VC.need (PreOk c_rAt (Prg.of (Prg.cells p), asInt (List.getD (List.drop (0 : Nat) (rowAt (rowsOn l) (Int.toNat k))) (0 : Nat) D.nilp)) [A.agg (Prg.cells p), A.c (D.int IntKind.i64 (asInt (List.getD (List.drop (0 : Nat) (rowAt (rowsOn l) (Int.toNat k))) (0 : Nat) D.nilp)))])
  (VC.all (v_rAt (Prg.of (Prg.cells p), asInt (List.getD (List.drop (0 : Nat) (rowAt (rowsOn l) (Int.toNat k))) (0 : Nat) D.nilp))) fun (y4 : Ins) =>
  (VC.br (y4.kind == (10 : Int))
   (VC.ret (some (RR.c (Rc.d (D.bool true)))))
   (FnA.at_ a_r9Blk 0 (F_r9b p l i (IntKind.wrap IntKind.i64 (k + (1 : Int))))))))))
  (VC.ret (some (RR.c (Rc.d (D.bool false))))))
 (VC.ret (some (RR.c (Rc.d (D.bool false)))))) := by kernel_rfl
theorem ixF_any9 (p : Prg) (l : List Ent) : ∀ (m k : Nat), (0 ≤ ixF p l m k ↔ ∃ j : Nat, k ≤ j ∧ j < k + m ∧ fenS p (rd l (j : Int)) = true)
  | 0, k => ⟨fun h => by simp [ixF] at h, fun ⟨j, h1, h2, _⟩ => by omega⟩
  | m + 1, k => by
    have ih := ixF_any9 p l m (k + 1)
    unfold ixF
    by_cases h : fenS p (rd l (k : Int)) = true
    · rw [if_pos h]
      exact ⟨fun _ => ⟨k, by omega, by omega, h⟩, fun _ => by omega⟩
    · rw [if_neg h, ih]
      constructor
      · rintro ⟨j, h1, h2, h3⟩
        exact ⟨j, by omega, by omega, h3⟩
      · rintro ⟨j, h1, h2, h3⟩
        by_cases e : j = k
        · rw [e] at h3; exact absurd h3 h
        · exact ⟨j, by omega, by omega, h3⟩
theorem blk_iff (p : Prg) (l : List Ent) (i : Int) : 0 ≤ ixS p (cutS l i) ↔ ∃ j : Nat, (j : Int) < i ∧ j < l.length ∧ fenS p (rd l (j : Int)) = true := by
  have hc := cutS_len2 l i
  unfold ixS
  rw [ixF_any9]
  have er : ∀ j : Nat, j < (cutS l i).length → rd (cutS l i) (j : Int) = rd l (j : Int) := fun j hj => by
    rw [rd_getE _ j hj, rd_getE l j (by have := cutS_len l i; omega)]
    exact List.getElem_take
  constructor
  · rintro ⟨j, _, h2, h3⟩
    rw [er j (by omega)] at h3
    exact ⟨j, by omega, by omega, h3⟩
  · rintro ⟨j, h1, h2, h3⟩
    exact ⟨j, by omega, by omega, by rw [er j (by omega)]; exact h3⟩
theorem l_r9b0 (p : Prg) (l : List Ent) (i : Int) (hl : l.length ≤ 1000000000) : ∀ i_ : Int, (fun (k : Int) => 0 ≤ k ∧ k ≤ l.length ∧ ∀ j : Nat, (j : Int) < k → fenS p (rd l (j : Int)) = false) i_ → (a_r9Blk.at_ 0 ((fun (k : Int) => F_r9b p l i k) i_)).holds s_r9Blk.cx a_r9Blk.rs (fun r => r.le (rb (decide (0 ≤ ixS p (cutS l i))))) := by
  refine loop_rule (a := a_r9Blk) (j := 0) (m := 400) s_r9Blk_sound (fun (k : Int) => F_r9b p l i k) (fun (k : Int) => 0 ≤ k ∧ k ≤ l.length ∧ ∀ j : Nat, (j : Int) < k → fenS p (rd l (j : Int)) = false) (fun (k : Int) => ((l.length : Int) - k).toNat) ?_
  rintro k h_inv ih
  try dsimp only at h_inv
  show VC.holds _ _ _ (a_r9Blk.round s_r9Blk 400 0 (F_r9b p l i k))
  rw [t_r9b0]
  try simp only [asRows_sl, asInt_int, asBool_bool, asStr_str, listOf_rowsOn, List.drop_zero, Prg.eta, Sta.eta, rowsOn_length, getD_drop, Nat.reduceAdd, rd_int, rd_PMem_name, rd_PMem_secret, rd_PMem_n, rd_PLabel_name, rd_PLabel_at_, rd_Ins_kind, rd_Ins_op, rd_Ins_d, rd_Ins_aR, rd_Ins_aN, rd_Ins_bR, rd_Ins_bN, rd_Ins_name, rd_Ins_target, rd_Ent_pc, rd_Ent_val, rd_Ent_addr, rd_Ent_fro, rd_Ent_next, rd_Ent_done, rd_Ent_known, rd_Ent_fault, rd_Place_reg, rd_Place_n, rd_Place_secret, rd_Obs_kind, rd_Obs_at_, rd_Dir_kind, rd_Dir_n, Prg.of_cells, Sta.of_cells]
  obtain ⟨k0, k1, k2⟩ := h_inv
  have w1 : IntKind.wrap .i64 (k + 1) = k + 1 := wrap_small _ (by omega) (by omega)
  simp only [w1]
  have no : (k ≥ i ∨ k ≥ l.length) → decide (0 ≤ ixS p (cutS l i)) = false := fun h => decide_eq_false fun q => by
    obtain ⟨j, j1, j2, j3⟩ := (blk_iff p l i).1 q
    rw [k2 j (by omega)] at j3; cases j3
  refine br_dec (fun hd => br_dec (fun he => ?_) (fun he => ?_)) (fun hd => ?_)
  · have ek : ((k.toNat : Nat) : Int) = k := by omega
    refine ⟨ent_ok l k k0 he, by rw [rowAt_on l k k0 he]; rfl, PreOk.mk trivial rfl, all_holds fun y hy => br_holds (fun hf => ?_) (fun hf => ?_)⟩
    · replace hf : fenS p (rd l k) = true := by rw [hy] at hf; exact hf
      have : decide (0 ≤ ixS p (cutS l i)) = true := decide_eq_true ((blk_iff p l i).2 ⟨k.toNat, by omega, by omega, by rw [ek]; exact hf⟩)
      rw [this]
      exact ret_le (RR.le_refl _)
    · replace hf : fenS p (rd l k) = false := by rw [hy] at hf; exact hf
      refine ih _ ⟨by omega, by omega, fun j hj => ?_⟩ (by omega)
      by_cases e : (j : Int) = k
      · rw [e]; exact hf
      · exact k2 j (by omega)
  · rw [no (.inr (by omega))]; exact ret_le (RR.le_refl _)
  · rw [no (.inl (by omega))]; exact ret_le (RR.le_refl _)
theorem c_r9Blk_good : c_r9Blk.fe.Good Try.prog := by
  refine FT.good c_r9Blk ⟨Try.f23, by kernel_rfl, by decide +kernel, by kernel_rfl⟩ (fun ⟨p, l, i⟩ => by first | rfl | simp [c_r9Blk, rrRef, rE, rrun, rstep, rins, rnum, rby, rss, rnewI, rnewE, rstab, rplaces, ri, rb, rib, Sta.fresh]) fun ⟨p, l, i⟩ hp => ?_
  refine acalls_le s_r9Blk_sound (fn := Try.f23) (a := a_r9Blk) (nargs := 3) (tbl := [(2, [1, 2, 3, 7])]) (by kernel_rfl) (by kernel_rfl) rfl (m := 400) ?_
  show VC.holds _ _ _ (a_r9Blk.start s_r9Blk 400 [ap p, aE l, ai i])
  rw [t_r9Blk]
  try simp only [asRows_sl, asInt_int, asBool_bool, asStr_str, listOf_rowsOn, List.drop_zero, Prg.eta, Sta.eta, rowsOn_length, getD_drop, Nat.reduceAdd, rd_int, rd_PMem_name, rd_PMem_secret, rd_PMem_n, rd_PLabel_name, rd_PLabel_at_, rd_Ins_kind, rd_Ins_op, rd_Ins_d, rd_Ins_aR, rd_Ins_aN, rd_Ins_bR, rd_Ins_bN, rd_Ins_name, rd_Ins_target, rd_Ent_pc, rd_Ent_val, rd_Ent_addr, rd_Ent_fro, rd_Ent_next, rd_Ent_done, rd_Ent_known, rd_Ent_fault, rd_Place_reg, rd_Place_n, rd_Place_secret, rd_Obs_kind, rd_Obs_at_, rd_Dir_kind, rd_Dir_n, Prg.of_cells, Sta.of_cells]
  try simp only [c_r9Blk] at hp
  exact l_r9b0 p l i hp 0 ⟨by omega, by omega, fun j hj => by omega⟩
noncomputable def v_r9Blk : Prg × List Ent × Int → Bool := fun x => decide (0 ≤ ixS x.1 (cutS x.2.1 x.2.2))
noncomputable def sh_r9Blk : Bool → RR := fun b => rb b
theorem e_r9Blk (x : Prg × List Ent × Int) : sh_r9Blk (v_r9Blk x) = c_r9Blk.ans x := rfl
end Go.Proofs.Ytmhfhobaicklmaa.Ax
end

section
/- What a load finds under way, and which load passed a store wrongly: memo, and by the document. -/
namespace Go.Proofs.Ytmhfhobaicklmaa.Ax
open Go.RowKit
set_option linter.unusedVariables false
set_option linter.unusedSimpArgs false
def loadK (p : Prg) (mem : List Int) (l : List Ent) (addr : Int) : Nat → Int × Int × Bool
  | 0 => if addr < 0 ∨ (mem.length : Int) ≤ addr then (0, -1, true) else (rd mem addr, -1, true)
  | k + 1 => if (atS p.ins (rd l (k : Int)).pc).kind = 3 ∧ (rd l (k : Int)).known = true ∧ (rd l (k : Int)).addr = addr then (if (rd l (k : Int)).done = true then ((rd l (k : Int)).val, (k : Int), true) else (0, 0, false)) else loadK p mem l addr k
def loadS (p : Prg) (mem : List Int) (l : List Ent) (i addr : Int) : Int × Int × Bool := loadK p mem (cutS l i) addr (cutS l i).length
def riib (x : Int × Int × Bool) : RR := .tup [.inl (.d (.int .i64 x.1)), .inl (.d (.int .i64 x.2.1)), .inl (.d (.bool x.2.2))]
def rdLoad : List A → Prg × List Int × List Ent × Int × Int
  | [.agg q, .c (.sl m), .c (.sl l), .c (.int _ i), .c (.int _ a)] => (Prg.of q, listOf Int m, listOf Ent l, i, a)
  | _ => default
theorem loadK_step (p : Prg) (mem : List Int) (l : List Ent) (addr : Int) {k : Int} (h : 0 ≤ k) : loadK p mem l addr (k + 1).toNat = if (atS p.ins (rd l k).pc).kind = 3 ∧ (rd l k).known = true ∧ (rd l k).addr = addr then (if (rd l k).done = true then ((rd l k).val, k, true) else (0, 0, false)) else loadK p mem l addr k.toNat := by
  have e : (k + 1).toNat = k.toNat + 1 := by omega
  have ek : ((k.toNat : Nat) : Int) = k := by omega
  rw [e]
  show (if (atS p.ins (rd l ((k.toNat : Nat) : Int)).pc).kind = 3 ∧ (rd l ((k.toNat : Nat) : Int)).known = true ∧ (rd l ((k.toNat : Nat) : Int)).addr = addr then (if (rd l ((k.toNat : Nat) : Int)).done = true then ((rd l ((k.toNat : Nat) : Int)).val, ((k.toNat : Nat) : Int), true) else (0, 0, false)) else _) = _
  rw [ek]
theorem load_mem (m : List Int) (a : Int) (h0 : 0 ≤ a) (h : a < m.length) : (0 ≤ a ∧ a < (m.length : Int) ∧ (rowAt (rowsOn m) a.toNat).length = 1) := ⟨h0, h, by rw [rowAt_on m a h0 h]; rfl⟩
def c_r9Load : FT (Prg × List Int × List Ent × Int × Int) := ⟨103, fun x => [ap x.1, al x.2.1, aE x.2.2.1, ai x.2.2.2.1, ai x.2.2.2.2], rdLoad, fun x => x.2.2.1.length ≤ 1000000000, fun x => riib (loadS x.1 x.2.1 x.2.2.1 x.2.2.2.1 x.2.2.2.2), false, fun x => by simp [ap, al, aE, ai, rdLoad]⟩
noncomputable def a_r9Load : FnA := (fnA Try.prog Try.f103 5 [(2, [1, 2, 4, 5, 13])]).getD ⟨0, .skip, [], []⟩
noncomputable def s_r9Load : Sp := spT [c_rAt.gfe v_rAt sh_rAt e_rAt]
theorem s_r9Load_sound : s_r9Load.sound Try.prog := spT_sound fun e he => by
  simp only [List.mem_cons, List.not_mem_nil, or_false] at he
  rcases he with rfl
  · exact FT.gfe_good c_rAt_good
def F_rl9 (p : Prg) (m : List Int) (l : List Ent) (a k : Int) : St := ⟨mkS 73 [(1, vr (rowsOn m)), (2, vr (rowsOn l)), (4, vi a), (5, vp 320), (13, vi k)], [(320, bx p.cells)]⟩
set_option maxRecDepth 100000 in
theorem t_r9Load (p : Prg) (m : List Int) (l : List Ent) (i a : Int) : a_r9Load.start s_r9Load 400 [ap p, al m, aE l, ai i, ai a] =
(FnA.at_ a_r9Load 0 (F_rl9 p m l a (IntKind.wrap IntKind.i64 (min (max i (0 : Int)) (↑(List.length (rowsOn l)) : Int) - (1 : Int))))) := by kernel_rfl
set_option maxRecDepth 100000 in
theorem t_rl90 (p : Prg) (m : List Int) (l : List Ent) (a k : Int) : a_r9Load.round s_r9Load 400 0 (F_rl9 p m l a k) =
(VC.br (decide ((0 : Int) ≤ k))
 (VC.need ((0 : Int) ≤ k ∧ k < (↑(List.length (rowsOn l)) : Int) ∧ List.length (rowAt (rowsOn l) (Int.toNat k)) = (8 : Nat))
 (VC.need (okSh [Kd.int IntKind.i64] (List.drop (0 : Nat) (rowAt (rowsOn l) (Int.toNat k))))
 (VC.need (PreOk c_rAt (Prg.of (Prg.cells p), asInt (List.getD (List.drop (0 : Nat) (rowAt (rowsOn l) (Int.toNat k))) (0 : Nat) D.nilp)) [A.agg (Prg.cells p), A.c (D.int IntKind.i64 (asInt (List.getD (List.drop (0 : Nat) (rowAt (rowsOn l) (Int.toNat k))) (0 : Nat) D.nilp)))])
 (VC.all (v_rAt (Prg.of (Prg.cells p), asInt (List.getD (List.drop (0 : Nat) (rowAt (rowsOn l) (Int.toNat k))) (0 : Nat) D.nilp))) fun (y5 : Ins) =>
 (VC.br (y5.kind == (3 : Int))
  (VC.need ((0 : Int) ≤ k ∧ k < (↑(List.length (rowsOn l)) : Int) ∧ List.length (rowAt (rowsOn l) (Int.toNat k)) = (8 : Nat))
  (VC.need (okSh [Kd.bool] (List.drop (6 : Nat) (rowAt (rowsOn l) (Int.toNat k))))
  (VC.br (asBool (List.getD (List.drop (6 : Nat) (rowAt (rowsOn l) (Int.toNat k))) (0 : Nat) D.nilp))
   (VC.need ((0 : Int) ≤ k ∧ k < (↑(List.length (rowsOn l)) : Int) ∧ List.length (rowAt (rowsOn l) (Int.toNat k)) = (8 : Nat))
   (VC.need (okSh [Kd.int IntKind.i64] (List.drop (2 : Nat) (rowAt (rowsOn l) (Int.toNat k))))
   (VC.br (asInt (List.getD (List.drop (2 : Nat) (rowAt (rowsOn l) (Int.toNat k))) (0 : Nat) D.nilp) == a)
    (VC.need ((0 : Int) ≤ k ∧ k < (↑(List.length (rowsOn l)) : Int) ∧ List.length (rowAt (rowsOn l) (Int.toNat k)) = (8 : Nat))
    (VC.need (okSh [Kd.bool] (List.drop (5 : Nat) (rowAt (rowsOn l) (Int.toNat k))))
    (VC.br (!asBool (List.getD (List.drop (5 : Nat) (rowAt (rowsOn l) (Int.toNat k))) (0 : Nat) D.nilp))
     (VC.ret (some (RR.tup [Sum.inl (Rc.d (D.int IntKind.i64 (0 : Int))), Sum.inl (Rc.d (D.int IntKind.i64 (0 : Int))), Sum.inl (Rc.d (D.bool false))])))
     (VC.need ((0 : Int) ≤ k ∧ k < (↑(List.length (rowsOn l)) : Int) ∧ List.length (rowAt (rowsOn l) (Int.toNat k)) = (8 : Nat))
     (VC.need (okSh [Kd.int IntKind.i64] (List.drop (1 : Nat) (rowAt (rowsOn l) (Int.toNat k))))
     (VC.ret (some (RR.tup [Sum.inl (Rc.d (D.int IntKind.i64 (asInt (List.getD (List.drop (1 : Nat) (rowAt (rowsOn l) (Int.toNat k))) (0 : Nat) D.nilp)))), Sum.inl (Rc.d (D.int IntKind.i64 k)), Sum.inl (Rc.d (D.bool true))]))))))))
    (FnA.at_ a_r9Load 0 (F_rl9 p m l a (IntKind.wrap IntKind.i64 (k - (1 : Int))))))))
   (FnA.at_ a_r9Load 0 (F_rl9 p m l a (IntKind.wrap IntKind.i64 (k - (1 : Int))))))))
  (FnA.at_ a_r9Load 0 (F_rl9 p m l a (IntKind.wrap IntKind.i64 (k - (1 : Int))))))))))
 (VC.br (decide (a < (0 : Int)))
  (VC.ret (some (RR.tup [Sum.inl (Rc.d (D.int IntKind.i64 (0 : Int))), Sum.inl (Rc.d (D.int IntKind.i64 (-1 : Int))), Sum.inl (Rc.d (D.bool true))])))
  (VC.br (decide ((↑(List.length (rowsOn m)) : Int) ≤ a))
   (VC.ret (some (RR.tup [Sum.inl (Rc.d (D.int IntKind.i64 (0 : Int))), Sum.inl (Rc.d (D.int IntKind.i64 (-1 : Int))), Sum.inl (Rc.d (D.bool true))])))
   (VC.need ((0 : Int) ≤ a ∧ a < (↑(List.length (rowsOn m)) : Int) ∧ List.length (rowAt (rowsOn m) (Int.toNat a)) = (1 : Nat))
   (VC.need (okSh [Kd.int IntKind.i64] (rowAt (rowsOn m) (Int.toNat a)))
   (VC.ret (some (RR.tup [Sum.inl (Rc.d (D.int IntKind.i64 (asInt (List.getD (rowAt (rowsOn m) (Int.toNat a)) (0 : Nat) D.nilp)))), Sum.inl (Rc.d (D.int IntKind.i64 (-1 : Int))), Sum.inl (Rc.d (D.bool true))])))))))) := by kernel_rfl
theorem loadK_take (p : Prg) (mem : List Int) (l : List Ent) (addr : Int) (m : Nat) : ∀ k : Nat, k ≤ m → k ≤ l.length → loadK p mem (l.take m) addr k = loadK p mem l addr k
  | 0, _, _ => rfl
  | k + 1, h1, h2 => by
    have ih := loadK_take p mem l addr m k (by omega) (by omega)
    unfold loadK
    rw [ih, rd_getE _ k (by simp; omega), rd_getE l k (by omega), List.getElem_take]
theorem l_rl90 (p : Prg) (m : List Int) (l : List Ent) (a : Int) (fin : Int × Int × Bool) (hl : l.length ≤ 1000000000) : ∀ i_ : Int, (fun (k : Int) => -1 ≤ k ∧ k < l.length ∧ loadK p m l a (k + 1).toNat = fin) i_ → (a_r9Load.at_ 0 ((fun (k : Int) => F_rl9 p m l a k) i_)).holds s_r9Load.cx a_r9Load.rs (fun x => x.le (riib fin)) := by
  refine loop_rule (a := a_r9Load) (j := 0) (m := 400) s_r9Load_sound (fun (k : Int) => F_rl9 p m l a k) (fun (k : Int) => -1 ≤ k ∧ k < l.length ∧ loadK p m l a (k + 1).toNat = fin) (fun (k : Int) => (k + 1).toNat) ?_
  rintro k h_inv ih
  try dsimp only at h_inv
  show VC.holds _ _ _ (a_r9Load.round s_r9Load 400 0 (F_rl9 p m l a k))
  rw [t_rl90]
  try simp only [asRows_sl, asInt_int, asBool_bool, asStr_str, listOf_rowsOn, List.drop_zero, Prg.eta, Sta.eta, rowsOn_length, getD_drop, Nat.reduceAdd, rd_int, rd_PMem_name, rd_PMem_secret, rd_PMem_n, rd_PLabel_name, rd_PLabel_at_, rd_Ins_kind, rd_Ins_op, rd_Ins_d, rd_Ins_aR, rd_Ins_aN, rd_Ins_bR, rd_Ins_bN, rd_Ins_name, rd_Ins_target, rd_Ent_pc, rd_Ent_val, rd_Ent_addr, rd_Ent_fro, rd_Ent_next, rd_Ent_done, rd_Ent_known, rd_Ent_fault, rd_Place_reg, rd_Place_n, rd_Place_secret, rd_Obs_kind, rd_Obs_at_, rd_Dir_kind, rd_Dir_n, Prg.of_cells, Sta.of_cells]
  obtain ⟨k0, k1, k2⟩ := h_inv
  have w1 : IntKind.wrap .i64 (k - 1) = k - 1 := wrap_small _ (by omega) (by omega)
  simp only [w1]
  refine br_dec (fun hd => ?_) (fun hd => ?_)
  · rw [loadK_step p m l a hd] at k2
    have nxt : loadK p m l a k.toNat = fin → (a_r9Load.at_ 0 (F_rl9 p m l a (k - 1))).holds s_r9Load.cx a_r9Load.rs fun x => x.le (riib fin) := fun h => ih _ ⟨by omega, by omega, by rw [show k - 1 + 1 = k by omega]; exact h⟩ (by omega)
    have g := ent_ok l k hd k1
    have gd : ∀ (j : Nat) (sh : List Kd), (∀ x : Ent, okSh sh ((row x).drop j)) → okSh sh (List.drop j (rowAt (rowsOn l) k.toNat)) := fun j sh h => okSh_okD sh j l k h hd k1
    refine ⟨g, okSh_okD [Kd.int .i64] 0 l k (fun _ => rfl) hd k1, PreOk.mk trivial rfl, all_holds fun y hy => ?_⟩
    replace hy : y = atS p.ins (rd l k).pc := hy
    rw [← hy] at k2
    refine br_beq (fun h1 => ⟨g, gd 6 _ (fun _ => rfl), br_holds (fun h2 => ⟨g, gd 2 _ (fun _ => rfl), br_beq (fun h3 => ⟨g, gd 5 _ (fun _ => rfl), br_not (br_holds (fun h4 => ⟨g, gd 1 _ (fun _ => rfl), ?_⟩) (fun h4 => ?_))⟩) (fun h3 => ?_)⟩) (fun h2 => ?_)⟩) (fun h1 => ?_)
    · rw [if_pos ⟨h1, h2, h3⟩, if_pos h4] at k2
      subst k2
      exact ret_le (RR.le_refl _)
    · rw [if_pos ⟨h1, h2, h3⟩, if_neg (by rw [h4]; simp)] at k2
      subst k2
      exact ret_le (RR.le_refl _)
    · rw [if_neg (fun q => h3 q.2.2)] at k2; exact nxt k2
    · rw [if_neg (fun q => by rw [h2] at q; cases q.2.1)] at k2; exact nxt k2
    · rw [if_neg (fun q => h1 q.1)] at k2; exact nxt k2
  · rw [show (k + 1).toNat = 0 by omega] at k2
    unfold loadK at k2
    refine br_dec (fun e => ?_) (fun e0 => br_dec (fun e => ?_) (fun e1 => ?_))
    · rw [if_pos (.inl e)] at k2; subst k2; exact ret_le (RR.le_refl _)
    · rw [if_pos (.inr e)] at k2; subst k2; exact ret_le (RR.le_refl _)
    · rw [if_neg (by omega)] at k2
      subst k2
      exact ⟨load_mem m a (by omega) (by omega), okSh_ok _ m a (fun _ => rfl) (by omega) (by omega), ret_le (RR.le_refl _)⟩
theorem c_r9Load_good : c_r9Load.fe.Good Try.prog := by
  refine FT.good c_r9Load ⟨Try.f103, by kernel_rfl, by decide +kernel, by kernel_rfl⟩ (fun ⟨p, m, l, i, a⟩ => by first | rfl | simp [c_r9Load, rrRef, rE, rrun, rstep, rins, rnum, rby, rss, rnewI, rnewE, rstab, rplaces, ri, rb, rib, riib, Sta.fresh]) fun ⟨p, m, l, i, a⟩ hp => ?_
  refine acalls_le s_r9Load_sound (fn := Try.f103) (a := a_r9Load) (nargs := 5) (tbl := [(2, [1, 2, 4, 5, 13])]) (by kernel_rfl) (by kernel_rfl) rfl (m := 400) ?_
  show VC.holds _ _ _ (a_r9Load.start s_r9Load 400 [ap p, al m, aE l, ai i, ai a])
  rw [t_r9Load]
  try simp only [asRows_sl, asInt_int, asBool_bool, asStr_str, listOf_rowsOn, List.drop_zero, Prg.eta, Sta.eta, rowsOn_length, getD_drop, Nat.reduceAdd, rd_int, rd_PMem_name, rd_PMem_secret, rd_PMem_n, rd_PLabel_name, rd_PLabel_at_, rd_Ins_kind, rd_Ins_op, rd_Ins_d, rd_Ins_aR, rd_Ins_aN, rd_Ins_bR, rd_Ins_bN, rd_Ins_name, rd_Ins_target, rd_Ent_pc, rd_Ent_val, rd_Ent_addr, rd_Ent_fro, rd_Ent_next, rd_Ent_done, rd_Ent_known, rd_Ent_fault, rd_Place_reg, rd_Place_n, rd_Place_secret, rd_Obs_kind, rd_Obs_at_, rd_Dir_kind, rd_Dir_n, Prg.of_cells, Sta.of_cells]
  try simp only [c_r9Load] at hp
  have hp : l.length ≤ 1000000000 := hp
  have hc := cutS_len2 l i
  have hc2 := cutS_len l i
  have w1 : IntKind.wrap .i64 (min (max i 0) (l.length : Int) - 1) = ((cutS l i).length : Int) - 1 := by rw [wrap_small _ (by omega) (by omega)]; omega
  rw [w1]
  have et : loadK p m (cutS l i) a (cutS l i).length = loadK p m l a (cutS l i).length := by
    show loadK p m (l.take _) a (cutS l i).length = _
    exact loadK_take p m l a _ _ (by omega) (by omega)
  have e : c_r9Load.ans (p, m, l, i, a) = riib (loadK p m l a (cutS l i).length) := by rw [← et]; rfl
  rw [e]
  exact l_rl90 p m l a _ hp (((cutS l i).length : Int) - 1) ⟨by omega, by omega, by rw [show (((cutS l i).length : Int) - 1 + 1).toNat = (cutS l i).length by omega]⟩
noncomputable def v_r9Load : Prg × List Int × List Ent × Int × Int → Int × Int × Bool := fun x => loadS x.1 x.2.1 x.2.2.1 x.2.2.2.1 x.2.2.2.2
noncomputable def sh_r9Load : Int × Int × Bool → RR := fun y => riib y
theorem e_r9Load (x : Prg × List Int × List Ent × Int × Int) : sh_r9Load (v_r9Load x) = c_r9Load.ans x := rfl
end Go.Proofs.Ytmhfhobaicklmaa.Ax
end

section
/- The machine that guesses, by the document: what it is told by; pushing, real stacks, guesses. -/
namespace Go.Proofs.Ytmhfhobaicklmaa.Ax
open Go.RowKit
set_option linter.unusedVariables false
set_option linter.unusedSimpArgs false
structure Conf where
  st : Sta
  buf : List Ent
  rsb : List Int
  fin : Int
  deriving Inhabited
def Conf.cells (c : Conf) : List D := [.int .i64 c.st.r0, .int .i64 c.st.r1, .int .i64 c.st.r2, .int .i64 c.st.r3, .sl (rowsOn c.st.mem), .sl (rowsOn c.st.stack), .int .i64 c.st.pc, .sl (rowsOn c.buf), .sl (rowsOn c.rsb), .int .i64 c.fin]
def Conf.of : List D → Conf
  | [.int _ a, .int _ b, .int _ c, .int _ d, .sl m, .sl s, .int _ pc, .sl l, .sl r, .int _ e] => ⟨⟨a, b, c, d, listOf Int m, listOf Int s, pc⟩, listOf Ent l, listOf Int r, e⟩
  | _ => default
@[simp] theorem Conf.of_cells (c : Conf) : Conf.of c.cells = c := by simp [Conf.of, Conf.cells]
def aC (c : Conf) : A := .agg c.cells
def Conf.regs (c : Conf) : Regs := ⟨c.st.r0, c.st.r1, c.st.r2, c.st.r3⟩
def rdPC : List A → Prg × Conf
  | [.agg q, .agg c] => (Prg.of q, Conf.of c)
  | _ => default
def rdPCI : List A → Prg × Conf × Int
  | [.agg q, .agg c, .c (.int _ i)] => (Prg.of q, Conf.of c, i)
  | _ => default
def rdLI2 : List A → List Int × Int
  | [.c (.sl l), .c (.int _ i)] => (listOf Int l, i)
  | _ => default
def pushS (l : List Int) (pc : Int) : List Int := (l ++ [pc]).drop (l.length + 1 - 2)
def c_r9Push : FT (List Int × Int) := ⟨105, fun x => [al x.1, ai x.2], rdLI2, fun x => x.1.length ≤ 1000000, fun x => .c (.d (.sl (rowsOn (pushS x.1 x.2)))), true, fun x => by simp [al, ai, rdLI2]⟩
noncomputable def a_r9Push : FnA := (fnA Try.prog Try.f105 2 []).getD ⟨0, .skip, [], []⟩
def s_r9Push : Sp := spT []
theorem s_r9Push_sound : s_r9Push.sound Try.prog := spT_sound fun e he => by cases he
set_option maxRecDepth 100000 in
theorem t_r9Push (l : List Int) (pc : Int) : a_r9Push.start s_r9Push 400 [al l, ai pc] =
(VC.need ((List.all (rowsOn l) fun r ↦ List.length r == (1 : Nat)) = true ∧ (List.all ([] : List (List D)) fun r ↦ List.length r == (1 : Nat)) = true ∧ ((0 : Nat) + List.length (rowsOn l) + (100 : Nat)) * (9 : Nat) ≤ (70368744177664 : Nat))
(VC.need ((List.all [[D.int IntKind.i64 pc]] fun r ↦ List.length r == (1 : Nat)) = true ∧ (List.all ([] ++ rowsOn l) fun r ↦ List.length r == (1 : Nat)) = true ∧ (List.length ([] ++ rowsOn l) + List.length [[D.int IntKind.i64 pc]] + (100 : Nat)) * (9 : Nat) ≤ (70368744177664 : Nat))
(VC.need ((0 : Int) ≤ max (IntKind.wrap IntKind.i64 ((↑(List.length ([] ++ rowsOn l) + List.length [[D.int IntKind.i64 pc]]) : Int) - (2 : Int))) (0 : Int) ∧ max (IntKind.wrap IntKind.i64 ((↑(List.length ([] ++ rowsOn l) + List.length [[D.int IntKind.i64 pc]]) : Int) - (2 : Int))) (0 : Int) ≤ (↑(List.length ([] ++ rowsOn l ++ [[D.int IntKind.i64 pc]])) : Int) ∧ (↑(List.length ([] ++ rowsOn l ++ [[D.int IntKind.i64 pc]])) : Int) ≤ (↑(List.length ([] ++ rowsOn l ++ [[D.int IntKind.i64 pc]])) : Int))
(VC.ret (some (RR.c (Rc.d (D.sl (List.drop (Int.toNat (max (IntKind.wrap IntKind.i64 ((↑(List.length ([] ++ rowsOn l) + List.length [[D.int IntKind.i64 pc]]) : Int) - (2 : Int))) (0 : Int))) (List.take (Int.toNat (↑(List.length ([] ++ rowsOn l ++ [[D.int IntKind.i64 pc]])) : Int)) ([] ++ rowsOn l ++ [[D.int IntKind.i64 pc]]))))))))))) := by kernel_rfl
theorem c_r9Push_good : c_r9Push.fe.Good Try.prog := by
  refine FT.good c_r9Push ⟨Try.f105, by kernel_rfl, by decide +kernel, by kernel_rfl⟩ (fun ⟨l, pc⟩ => by first | rfl | simp [c_r9Push, rrRef, riib, rE, rrun, rstep, rins, rnum, rby, rss, rnewI, rnewE, rstab, rplaces, ri, rb, rib, Sta.fresh]) fun ⟨l, pc⟩ hp => ?_
  refine acalls_leD s_r9Push_sound (fn := Try.f105) (a := a_r9Push) (nargs := 2) (tbl := []) (by kernel_rfl) (by kernel_rfl) rfl (m := 400) ?_
  show VC.holds _ _ _ (a_r9Push.start s_r9Push 400 [al l, ai pc])
  rw [t_r9Push]
  try simp only [asRows_sl, asInt_int, asBool_bool, asStr_str, listOf_rowsOn, List.drop_zero, Prg.eta, Sta.eta, rowsOn_length, getD_drop, Nat.reduceAdd, rd_int, rd_PMem_name, rd_PMem_secret, rd_PMem_n, rd_PLabel_name, rd_PLabel_at_, rd_Ins_kind, rd_Ins_op, rd_Ins_d, rd_Ins_aR, rd_Ins_aN, rd_Ins_bR, rd_Ins_bN, rd_Ins_name, rd_Ins_target, rd_Ent_pc, rd_Ent_val, rd_Ent_addr, rd_Ent_fro, rd_Ent_next, rd_Ent_done, rd_Ent_known, rd_Ent_fault, rd_Place_reg, rd_Place_n, rd_Place_secret, rd_Obs_kind, rd_Obs_at_, rd_Dir_kind, rd_Dir_n, Prg.of_cells, Sta.of_cells]
  try simp only [c_r9Push] at hp
  have hp : l.length ≤ 1000000 := hp
  have er : [[D.int .i64 pc]] = rowsOn [pc] := rfl
  simp only [List.nil_append, er, ← rowsOn_append, rowsOn_take, rowsOn_drop, rowsOn_length, List.length_cons, List.length_nil, List.length_append]
  have w1 : IntKind.wrap .i64 (((l.length + (0 + 1) : Nat) : Int) - 2) = ((l.length + (0 + 1) : Nat) : Int) - 2 := wrap_small _ (by omega) (by omega)
  rw [w1]
  refine ⟨⟨rowsOn_all l 1 rfl, rfl, by omega⟩, ⟨rfl, rowsOn_all l 1 rfl, by omega⟩, ⟨by omega, by omega, Int.le_refl _⟩, ret_leD ?_⟩
  have e1 : (max (((l.length + (0 + 1) : Nat) : Int) - 2) 0).toNat = l.length + 1 - 2 := by omega
  rw [e1, Int.toNat_natCast, List.take_of_length_le (by simp)]
  exact RR.le_refl _
noncomputable def v_r9Push : List Int × Int → List Int := fun x => pushS x.1 x.2
noncomputable def sh_r9Push : List Int → RR := fun l => .c (.d (.sl (rowsOn l)))
theorem e_r9Push (x : List Int × Int) : sh_r9Push (v_r9Push x) = c_r9Push.ans x := rfl
/-- The stack as the ones ahead leave it. -/
def realK (p : Prg) (l : List Ent) : Nat → List Int → Option (List Int)
  | 0, s => some s
  | k + 1, s => match realK p l k s with
    | none => none
    | some out => if (atS p.ins (rd l (k : Int)).pc).kind = 8 then (if 4 ≤ out.length then none else some (out ++ [IntKind.wrap .i64 ((rd l (k : Int)).pc + 1)]))
      else if (atS p.ins (rd l (k : Int)).pc).kind = 9 then (if out.length = 0 then none else some out.dropLast) else some out
def rreal (x : Option (List Int)) : RR := .tup [.inl (.new 1 (rowsOn (x.getD []))), .inl (.d (.bool x.isSome))]
def rdReal : List A → Prg × List Int × List Ent × Int
  | [.agg q, .c (.sl s), .c (.sl l), .c (.int _ i)] => (Prg.of q, listOf Int s, listOf Ent l, i)
  | _ => default
def c_r9Real : FT (Prg × List Int × List Ent × Int) := ⟨104, fun x => [ap x.1, al x.2.1, aE x.2.2.1, ai x.2.2.2], rdReal, fun x => x.2.1.length ≤ 1000000 ∧ x.2.2.1.length ≤ 1000000, fun x => rreal (realK x.1 x.2.2.1 (cutS x.2.2.1 x.2.2.2).length x.2.1), false, fun x => by simp [ap, al, aE, ai, rdReal]⟩
noncomputable def a_r9Real : FnA := (fnA Try.prog Try.f104 4 [(3, [2, 3, 4, 10, 11, 1000010000000900001001])]).getD ⟨0, .skip, [], []⟩
noncomputable def s_r9Real : Sp := spT [c_rAt.gfe v_rAt sh_rAt e_rAt]
theorem s_r9Real_sound : s_r9Real.sound Try.prog := spT_sound fun e he => by
  simp only [List.mem_cons, List.not_mem_nil, or_false] at he
  rcases he with rfl
  · exact FT.gfe_good c_rAt_good
def F_rr (p : Prg) (l : List Ent) (i : Int) (n : Nat) (R : List (List D)) (k : Int) : St := ⟨mkS 59 [(2, vr (rowsOn l)), (3, vi i), (4, vp 256), (10, vo 900001 n), (11, vi k)], [(256, bx p.cells), (900001, ba 1 R)]⟩
set_option maxRecDepth 100000 in
theorem t_r9Real (p : Prg) (s : List Int) (l : List Ent) (i : Int) : a_r9Real.start s_r9Real 400 [ap p, al s, aE l, ai i] =
(VC.need ((List.all (rowsOn s) fun r ↦ List.length r == (1 : Nat)) = true ∧ (List.all ([] : List (List D)) fun r ↦ List.length r == (1 : Nat)) = true ∧ ((0 : Nat) + List.length (rowsOn s) + (100 : Nat)) * (9 : Nat) ≤ (70368744177664 : Nat))
(FnA.at_ a_r9Real 0 (F_rr p l i ((0 : Nat) + List.length (rowsOn s)) ([] ++ rowsOn s) (0 : Int)))) := by kernel_rfl
set_option maxRecDepth 100000 in
theorem t_rr0 (p : Prg) (l : List Ent) (i : Int) (n : Nat) (R : List (List D)) (k : Int) : a_r9Real.round s_r9Real 400 0 (F_rr p l i n R k) =
(VC.br (decide (k < i))
 (VC.br (decide (k < (↑(List.length (rowsOn l)) : Int)))
  (VC.need ((0 : Int) ≤ k ∧ k < (↑(List.length (rowsOn l)) : Int) ∧ List.length (rowAt (rowsOn l) (Int.toNat k)) = (8 : Nat))
  (VC.need (okSh [Kd.int IntKind.i64] (List.drop (0 : Nat) (rowAt (rowsOn l) (Int.toNat k))))
  (VC.need (PreOk c_rAt (Prg.of (Prg.cells p), asInt (List.getD (List.drop (0 : Nat) (rowAt (rowsOn l) (Int.toNat k))) (0 : Nat) D.nilp)) [A.agg (Prg.cells p), A.c (D.int IntKind.i64 (asInt (List.getD (List.drop (0 : Nat) (rowAt (rowsOn l) (Int.toNat k))) (0 : Nat) D.nilp)))])
  (VC.all (v_rAt (Prg.of (Prg.cells p), asInt (List.getD (List.drop (0 : Nat) (rowAt (rowsOn l) (Int.toNat k))) (0 : Nat) D.nilp))) fun (y6 : Ins) =>
  (VC.br (y6.kind == (8 : Int))
   (VC.br (decide ((4 : Int) ≤ (↑n : Int)))
    (VC.ret (some (RR.tup [Sum.inl Rc.nil, Sum.inl (Rc.d (D.bool false))])))
    (VC.need ((0 : Int) ≤ k ∧ k < (↑(List.length (rowsOn l)) : Int) ∧ List.length (rowAt (rowsOn l) (Int.toNat k)) = (8 : Nat))
    (VC.need (okSh [Kd.int IntKind.i64] (List.drop (0 : Nat) (rowAt (rowsOn l) (Int.toNat k))))
    (VC.need ((List.all [[D.int IntKind.i64 (IntKind.wrap IntKind.i64 (asInt (List.getD (List.drop (0 : Nat) (rowAt (rowsOn l) (Int.toNat k))) (0 : Nat) D.nilp) + (1 : Int)))]] fun r ↦ List.length r == (1 : Nat)) = true ∧ (List.all R fun r ↦ List.length r == (1 : Nat)) = true ∧ (List.length R + List.length [[D.int IntKind.i64 (IntKind.wrap IntKind.i64 (asInt (List.getD (List.drop (0 : Nat) (rowAt (rowsOn l) (Int.toNat k))) (0 : Nat) D.nilp) + (1 : Int)))]] + (100 : Nat)) * (9 : Nat) ≤ (70368744177664 : Nat))
    (FnA.at_ a_r9Real 0 (F_rr p l i (List.length R + List.length [[D.int IntKind.i64 (IntKind.wrap IntKind.i64 (asInt (List.getD (List.drop (0 : Nat) (rowAt (rowsOn l) (Int.toNat k))) (0 : Nat) D.nilp) + (1 : Int)))]]) (R ++ [[D.int IntKind.i64 (IntKind.wrap IntKind.i64 (asInt (List.getD (List.drop (0 : Nat) (rowAt (rowsOn l) (Int.toNat k))) (0 : Nat) D.nilp) + (1 : Int)))]]) (IntKind.wrap IntKind.i64 (k + (1 : Int)))))))))
   (VC.br (y6.kind == (9 : Int))
    (VC.br ((↑n : Int) == (0 : Int))
     (VC.ret (some (RR.tup [Sum.inl Rc.nil, Sum.inl (Rc.d (D.bool false))])))
     (VC.need ((0 : Int) ≤ IntKind.wrap IntKind.i64 ((↑n : Int) - (1 : Int)) ∧ IntKind.wrap IntKind.i64 ((↑n : Int) - (1 : Int)) ≤ (↑(List.length R) : Int))
     (FnA.at_ a_r9Real 0 (F_rr p l i (Int.toNat (IntKind.wrap IntKind.i64 ((↑n : Int) - (1 : Int)))) (List.take (Int.toNat (IntKind.wrap IntKind.i64 ((↑n : Int) - (1 : Int)))) R) (IntKind.wrap IntKind.i64 (k + (1 : Int)))))))
    (FnA.at_ a_r9Real 0 (F_rr p l i n R (IntKind.wrap IntKind.i64 (k + (1 : Int)))))))))))
  (VC.ret (some (RR.tup [Sum.inl (Rc.new (1 : Nat) R), Sum.inl (Rc.d (D.bool true))]))))
 (VC.ret (some (RR.tup [Sum.inl (Rc.new (1 : Nat) R), Sum.inl (Rc.d (D.bool true))])))) := by kernel_rfl
theorem realK_none (p : Prg) (l : List Ent) (s : List Int) (k : Nat) (h : realK p l k s = none) : ∀ d : Nat, realK p l (k + d) s = none
  | 0 => h
  | d + 1 => by
    have ih := realK_none p l s k h d
    show (match realK p l (k + d) s with | none => none | some out => _) = none
    rw [ih]
theorem realK_step (p : Prg) (l : List Ent) (s out : List Int) {k : Int} (h0 : 0 ≤ k) (h : realK p l k.toNat s = some out) : realK p l (k + 1).toNat s = if (atS p.ins (rd l k).pc).kind = 8 then (if 4 ≤ out.length then none else some (out ++ [IntKind.wrap .i64 ((rd l k).pc + 1)]))
      else if (atS p.ins (rd l k).pc).kind = 9 then (if out.length = 0 then none else some out.dropLast) else some out := by
  have e : (k + 1).toNat = k.toNat + 1 := by omega
  have ek : ((k.toNat : Nat) : Int) = k := by omega
  rw [e]
  unfold realK
  rw [h, ek]
theorem l_rr0 (p : Prg) (s : List Int) (l : List Ent) (i : Int) (hs : s.length ≤ 1000000) (hl : l.length ≤ 1000000) : ∀ i_ : Int × Nat × List (List D), (fun (v : Int × Nat × List (List D)) => 0 ≤ v.1 ∧ v.1 ≤ l.length ∧ v.1 ≤ max i 0 ∧ ∃ out : List Int, OnL v.2.2 v.2.1 out ∧ realK p l v.1.toNat s = some out ∧ out.length ≤ 1000000 + v.1) i_ → (a_r9Real.at_ 0 ((fun (v : Int × Nat × List (List D)) => F_rr p l i v.2.1 v.2.2 v.1) i_)).holds s_r9Real.cx a_r9Real.rs (fun r => r.le (rreal (realK p l (cutS l i).length s))) := by
  refine loop_rule (a := a_r9Real) (j := 0) (m := 400) s_r9Real_sound (fun (v : Int × Nat × List (List D)) => F_rr p l i v.2.1 v.2.2 v.1) (fun (v : Int × Nat × List (List D)) => 0 ≤ v.1 ∧ v.1 ≤ l.length ∧ v.1 ≤ max i 0 ∧ ∃ out : List Int, OnL v.2.2 v.2.1 out ∧ realK p l v.1.toNat s = some out ∧ out.length ≤ 1000000 + v.1) (fun (v : Int × Nat × List (List D)) => ((l.length : Int) - v.1).toNat) ?_
  rintro ⟨k, n, R⟩ h_inv ih
  try dsimp only at h_inv
  replace ih := fun (v0 : Int) (v1 : Nat) (v2 : List (List D)) => ih (v0, v1, v2)
  try dsimp only at ih
  show VC.holds _ _ _ (a_r9Real.round s_r9Real 400 0 (F_rr p l i n R k))
  rw [t_rr0]
  try simp only [asRows_sl, asInt_int, asBool_bool, asStr_str, listOf_rowsOn, List.drop_zero, Prg.eta, Sta.eta, rowsOn_length, getD_drop, Nat.reduceAdd, rd_int, rd_PMem_name, rd_PMem_secret, rd_PMem_n, rd_PLabel_name, rd_PLabel_at_, rd_Ins_kind, rd_Ins_op, rd_Ins_d, rd_Ins_aR, rd_Ins_aN, rd_Ins_bR, rd_Ins_bN, rd_Ins_name, rd_Ins_target, rd_Ent_pc, rd_Ent_val, rd_Ent_addr, rd_Ent_fro, rd_Ent_next, rd_Ent_done, rd_Ent_known, rd_Ent_fault, rd_Place_reg, rd_Place_n, rd_Place_secret, rd_Obs_kind, rd_Obs_at_, rd_Dir_kind, rd_Dir_n, Prg.of_cells, Sta.of_cells]
  obtain ⟨k0, k1, k2, out, h1, h2, h3⟩ := h_inv
  have w1 : IntKind.wrap .i64 (k + 1) = k + 1 := wrap_small _ (by omega) (by omega)
  simp only [w1]
  have hc := cutS_len2 l i
  have en := h1.2
  have fin : k ≥ i ∨ k ≥ l.length → (RR.tup [.inl (.new 1 R), .inl (.d (.bool true))]).le (rreal (realK p l (cutS l i).length s)) := fun h => by
    have : (cutS l i).length = k.toNat := by omega
    rw [this, h2, h1.1]
    exact RR.le_refl _
  refine br_dec (fun hd => br_dec (fun he => ?_) (fun he => ret_le (fin (.inr (by omega))))) (fun hd => ret_le (fin (.inl (by omega))))
  have hst := realK_step p l s out k0 h2
  have bad : realK p l (k + 1).toNat s = none → (RR.tup [.inl .nil, .inl (.d (.bool false))]).le (rreal (realK p l (cutS l i).length s)) := fun h => by
    have := realK_none p l s _ h ((cutS l i).length - (k + 1).toNat)
    rw [show (k + 1).toNat + ((cutS l i).length - (k + 1).toNat) = (cutS l i).length by omega] at this
    rw [this]
    simp [RR.le, Rc.le1s, Rc.le1, rreal, rowsOn]
  have g := ent_ok l k k0 he
  refine ⟨g, okSh_okD [Kd.int .i64] 0 l k (fun _ => rfl) k0 he, PreOk.mk trivial rfl, all_holds fun y hy => ?_⟩
  replace hy : y = atS p.ins (rd l k).pc := hy
  rw [← hy] at hst
  refine br_beq (fun c1 => ?_) (fun c1 => br_beq (fun c2 => ?_) (fun c2 => ?_))
  · rw [if_pos c1] at hst
    refine br_dec (fun c3 => ?_) (fun c3 => ?_)
    · rw [if_pos (by omega)] at hst
      exact ret_le (bad hst)
    · rw [if_neg (by omega)] at hst
      exact ⟨g, okSh_okD [Kd.int .i64] 0 l k (fun _ => rfl) k0 he, app_ok h1 rfl rfl (by simp only [List.length_cons, List.length_nil]; omega), ih _ _ _ ⟨by omega, by omega, by omega, _, h1.snoc (IntKind.wrap .i64 ((rd l k).pc + 1)), hst, by simp; omega⟩ (by omega)⟩
  · rw [if_neg c1, if_pos c2] at hst
    refine br_beq (fun c3 => ?_) (fun c3 => ?_)
    · rw [if_pos (by omega)] at hst
      exact ret_le (bad hst)
    · rw [if_neg (by omega)] at hst
      have w2 : IntKind.wrap .i64 ((n : Int) - 1) = (n : Int) - 1 := wrap_small _ (by omega) (by omega)
      rw [w2]
      obtain ⟨rfl, rfl⟩ := h1
      have e1 : ((out.length : Int) - 1).toNat = out.length - 1 := by omega
      refine ⟨⟨by omega, by rw [rowsOn_length]; omega⟩, ih _ _ _ ⟨by omega, by omega, by omega, out.dropLast, ⟨?_, ?_⟩, hst, by simp; omega⟩ (by omega)⟩
      · rw [e1, rowsOn_take, List.dropLast_eq_take]
      · rw [e1]; simp
  · rw [if_neg c1, if_neg c2] at hst
    exact ih _ _ _ ⟨by omega, by omega, by omega, out, h1, hst, by omega⟩ (by omega)
theorem c_r9Real_good : c_r9Real.fe.Good Try.prog := by
  refine FT.good c_r9Real ⟨Try.f104, by kernel_rfl, by decide +kernel, by kernel_rfl⟩ (fun ⟨p, s, l, i⟩ => by first | rfl | simp [c_r9Real, rrRef, riib, rE, rrun, rstep, rins, rnum, rby, rss, rnewI, rnewE, rstab, rplaces, ri, rb, rib, rreal, Sta.fresh]) fun ⟨p, s, l, i⟩ hp => ?_
  refine acalls_le s_r9Real_sound (fn := Try.f104) (a := a_r9Real) (nargs := 4) (tbl := [(3, [2, 3, 4, 10, 11, 1000010000000900001001])]) (by kernel_rfl) (by kernel_rfl) rfl (m := 400) ?_
  show VC.holds _ _ _ (a_r9Real.start s_r9Real 400 [ap p, al s, aE l, ai i])
  rw [t_r9Real]
  try simp only [asRows_sl, asInt_int, asBool_bool, asStr_str, listOf_rowsOn, List.drop_zero, Prg.eta, Sta.eta, rowsOn_length, getD_drop, Nat.reduceAdd, rd_int, rd_PMem_name, rd_PMem_secret, rd_PMem_n, rd_PLabel_name, rd_PLabel_at_, rd_Ins_kind, rd_Ins_op, rd_Ins_d, rd_Ins_aR, rd_Ins_aN, rd_Ins_bR, rd_Ins_bN, rd_Ins_name, rd_Ins_target, rd_Ent_pc, rd_Ent_val, rd_Ent_addr, rd_Ent_fro, rd_Ent_next, rd_Ent_done, rd_Ent_known, rd_Ent_fault, rd_Place_reg, rd_Place_n, rd_Place_secret, rd_Obs_kind, rd_Obs_at_, rd_Dir_kind, rd_Dir_n, Prg.of_cells, Sta.of_cells]
  try simp only [c_r9Real] at hp
  obtain ⟨hs, hl⟩ := hp
  have hs : s.length ≤ 1000000 := hs
  refine ⟨⟨rowsOn_all s 1 rfl, rfl, by first | (rw [rowsOn_length]; omega) | omega⟩, ?_⟩
  exact l_rr0 p s l i hs hl (0, _, _) ⟨by omega, by dsimp only; omega, by dsimp only; omega, s, ⟨by simp, by simp⟩, rfl, by dsimp only; omega⟩
noncomputable def v_r9Real : Prg × List Int × List Ent × Int → Option (List Int) := fun x => realK x.1 x.2.2.1 (cutS x.2.2.1 x.2.2.2).length x.2.1
noncomputable def sh_r9Real : Option (List Int) → RR := fun y => rreal y
theorem e_r9Real (x : Prg × List Int × List Ent × Int) : sh_r9Real (v_r9Real x) = c_r9Real.ans x := rfl
def guessS (p : Prg) (c : Conf) : Int :=
  if c.fin ≠ 0 ∨ c.st.pc = -1 ∨ p.window ≤ c.buf.length then 0
  else if (atS p.ins c.st.pc).kind = 5 then 2 else if (atS p.ins c.st.pc).kind = 7 then (p.ins.length : Int) + 1
  else if (atS p.ins c.st.pc).kind = 9 ∧ c.rsb.length = 0 then (p.ins.length : Int) + 1 else 1
def c_r9Gu : FT (Prg × Conf) := ⟨78, fun x => [ap x.1, aC x.2], rdPC, fun x => x.1.ins.length ≤ 1000000, fun x => ri (guessS x.1 x.2), false, fun x => by simp [ap, aC, rdPC]⟩
noncomputable def a_r9Gu : FnA := (fnA Try.prog Try.f78 2 []).getD ⟨0, .skip, [], []⟩
noncomputable def s_r9Gu : Sp := spT [c_rAt.gfe v_rAt sh_rAt e_rAt]
theorem s_r9Gu_sound : s_r9Gu.sound Try.prog := spT_sound fun e he => by
  simp only [List.mem_cons, List.not_mem_nil, or_false] at he
  rcases he with rfl
  · exact FT.gfe_good c_rAt_good
set_option maxRecDepth 100000 in
theorem t_r9Gu (p : Prg) (c : Conf) : a_r9Gu.start s_r9Gu 400 [ap p, aC c] =
(VC.br (c.fin != (0 : Int))
 (VC.ret (some (RR.c (Rc.d (D.int IntKind.i64 (0 : Int))))))
 (VC.br (c.st.pc == (-1 : Int))
  (VC.ret (some (RR.c (Rc.d (D.int IntKind.i64 (0 : Int))))))
  (VC.br (decide (p.window ≤ (↑(List.length (rowsOn c.buf)) : Int)))
   (VC.ret (some (RR.c (Rc.d (D.int IntKind.i64 (0 : Int))))))
   (VC.need (PreOk c_rAt (Prg.of (Prg.cells p), c.st.pc) [A.agg (Prg.cells p), A.c (D.int IntKind.i64 c.st.pc)])
   (VC.all (v_rAt (Prg.of (Prg.cells p), c.st.pc)) fun (y2 : Ins) =>
   (VC.br (y2.kind == (5 : Int))
    (VC.ret (some (RR.c (Rc.d (D.int IntKind.i64 (2 : Int))))))
    (VC.br (y2.kind == (7 : Int))
     (VC.ret (some (RR.c (Rc.d (D.int IntKind.i64 (IntKind.wrap IntKind.i64 ((↑(List.length (rowsOn p.ins)) : Int) + (1 : Int))))))))
     (VC.br (y2.kind == (9 : Int))
      (VC.br ((↑(List.length (rowsOn c.rsb)) : Int) == (0 : Int))
       (VC.ret (some (RR.c (Rc.d (D.int IntKind.i64 (IntKind.wrap IntKind.i64 ((↑(List.length (rowsOn p.ins)) : Int) + (1 : Int))))))))
       (VC.ret (some (RR.c (Rc.d (D.int IntKind.i64 (1 : Int)))))))
      (VC.ret (some (RR.c (Rc.d (D.int IntKind.i64 (1 : Int)))))))))))))) := by kernel_rfl
theorem c_r9Gu_good : c_r9Gu.fe.Good Try.prog := by
  refine FT.good c_r9Gu ⟨Try.f78, by kernel_rfl, by decide +kernel, by kernel_rfl⟩ (fun ⟨p, c⟩ => by first | rfl | simp [c_r9Gu, rrRef, riib, rE, rrun, rstep, rins, rnum, rby, rss, rnewI, rnewE, rstab, rplaces, ri, rb, rib, rreal, Sta.fresh]) fun ⟨p, c⟩ hp => ?_
  refine acalls_le s_r9Gu_sound (fn := Try.f78) (a := a_r9Gu) (nargs := 2) (tbl := []) (by kernel_rfl) (by kernel_rfl) rfl (m := 400) ?_
  show VC.holds _ _ _ (a_r9Gu.start s_r9Gu 400 [ap p, aC c])
  rw [t_r9Gu]
  try simp only [asRows_sl, asInt_int, asBool_bool, asStr_str, listOf_rowsOn, List.drop_zero, Prg.eta, Sta.eta, rowsOn_length, getD_drop, Nat.reduceAdd, rd_int, rd_PMem_name, rd_PMem_secret, rd_PMem_n, rd_PLabel_name, rd_PLabel_at_, rd_Ins_kind, rd_Ins_op, rd_Ins_d, rd_Ins_aR, rd_Ins_aN, rd_Ins_bR, rd_Ins_bN, rd_Ins_name, rd_Ins_target, rd_Ent_pc, rd_Ent_val, rd_Ent_addr, rd_Ent_fro, rd_Ent_next, rd_Ent_done, rd_Ent_known, rd_Ent_fault, rd_Place_reg, rd_Place_n, rd_Place_secret, rd_Obs_kind, rd_Obs_at_, rd_Dir_kind, rd_Dir_n, Prg.of_cells, Sta.of_cells]
  try simp only [c_r9Gu] at hp
  have hp : p.ins.length ≤ 1000000 := hp
  have e : c_r9Gu.ans (p, c) = ri (guessS p c) := rfl
  rw [e, wrap_small ((p.ins.length : Int) + 1) (by omega) (by omega)]
  unfold guessS
  refine br_bne (fun h1 => ?_) (fun h1 => br_beq (fun h2 => ?_) (fun h2 => br_dec (fun h3 => ?_) (fun h3 => ⟨PreOk.mk trivial rfl, all_holds fun y hy => ?_⟩)))
  · rw [if_pos (.inl h1)]; exact ret_le (RR.le_refl _)
  · rw [if_pos (.inr (.inl h2))]; exact ret_le (RR.le_refl _)
  · rw [if_pos (.inr (.inr h3))]; exact ret_le (RR.le_refl _)
  rw [if_neg (by rintro (q | q | q) <;> first | exact q h1 | exact h2 q | exact h3 q)]
  replace hy : y = atS p.ins c.st.pc := hy
  rw [← hy]
  refine br_beq (fun g1 => ?_) (fun g1 => br_beq (fun g2 => ?_) (fun g2 => br_beq (fun g3 => br_beq (fun g4 => ?_) (fun g4 => ?_)) (fun g3 => ?_)))
  · rw [if_pos g1]; exact ret_le (RR.le_refl _)
  · rw [if_neg g1, if_pos g2]; exact ret_le (RR.le_refl _)
  · rw [if_neg g1, if_neg g2, if_pos ⟨g3, by omega⟩]; exact ret_le (RR.le_refl _)
  · rw [if_neg g1, if_neg g2, if_neg (fun q => g4 (by omega))]; exact ret_le (RR.le_refl _)
  · rw [if_neg g1, if_neg g2, if_neg (fun q => g3 q.1)]; exact ret_le (RR.le_refl _)
noncomputable def v_r9Gu : Prg × Conf → Int := fun x => guessS x.1 x.2
noncomputable def sh_r9Gu : Int → RR := fun y => ri y
theorem e_r9Gu (x : Prg × Conf) : sh_r9Gu (v_r9Gu x) = c_r9Gu.ans x := rfl
def c_r9Op : FT (Prg × Conf × Int) := ⟨101, fun x => [ap x.1, aC x.2.1, ai x.2.2], rdPCI, fun x => x.2.1.buf.length ≤ 1000000, fun x => rb (decide (x.2.1.fin = 0 ∧ 0 ≤ x.2.2 ∧ x.2.2 < x.2.1.buf.length ∧ ¬ 0 ≤ ixS x.1 (cutS x.2.1.buf x.2.2))), false, fun x => by simp [ap, aC, ai, rdPCI]⟩
noncomputable def a_r9Op : FnA := (fnA Try.prog Try.f101 3 []).getD ⟨0, .skip, [], []⟩
noncomputable def s_r9Op : Sp := spT [c_r9Blk.gfe v_r9Blk sh_r9Blk e_r9Blk]
theorem s_r9Op_sound : s_r9Op.sound Try.prog := spT_sound fun e he => by
  simp only [List.mem_cons, List.not_mem_nil, or_false] at he
  rcases he with rfl
  · exact FT.gfe_good c_r9Blk_good
set_option maxRecDepth 100000 in
theorem t_r9Op (p : Prg) (c : Conf) (i : Int) : a_r9Op.start s_r9Op 400 [ap p, aC c, ai i] =
(VC.br (c.fin == (0 : Int))
 (VC.br (decide ((0 : Int) ≤ i))
  (VC.br (decide (i < (↑(List.length (rowsOn c.buf)) : Int)))
   (VC.need (PreOk c_r9Blk (Prg.of (Prg.cells p), c.buf, i) [A.agg (Prg.cells p), A.c (D.sl (rowsOn c.buf)), A.c (D.int IntKind.i64 i)])
   (VC.all (v_r9Blk (Prg.of (Prg.cells p), listOf Ent (rowsOn c.buf), i)) fun (y3 : Bool) =>
   (VC.ret (some (RR.c (Rc.d (D.bool !y3)))))))
   (VC.ret (some (RR.c (Rc.d (D.bool false))))))
  (VC.ret (some (RR.c (Rc.d (D.bool false))))))
 (VC.ret (some (RR.c (Rc.d (D.bool false)))))) := by kernel_rfl
theorem c_r9Op_good : c_r9Op.fe.Good Try.prog := by
  refine FT.good c_r9Op ⟨Try.f101, by kernel_rfl, by decide +kernel, by kernel_rfl⟩ (fun ⟨p, c, i⟩ => by first | rfl | simp [c_r9Op, rrRef, riib, rE, rrun, rstep, rins, rnum, rby, rss, rnewI, rnewE, rstab, rplaces, ri, rb, rib, rreal, Sta.fresh]) fun ⟨p, c, i⟩ hp => ?_
  refine acalls_le s_r9Op_sound (fn := Try.f101) (a := a_r9Op) (nargs := 3) (tbl := []) (by kernel_rfl) (by kernel_rfl) rfl (m := 400) ?_
  show VC.holds _ _ _ (a_r9Op.start s_r9Op 400 [ap p, aC c, ai i])
  rw [t_r9Op]
  try simp only [asRows_sl, asInt_int, asBool_bool, asStr_str, listOf_rowsOn, List.drop_zero, Prg.eta, Sta.eta, rowsOn_length, getD_drop, Nat.reduceAdd, rd_int, rd_PMem_name, rd_PMem_secret, rd_PMem_n, rd_PLabel_name, rd_PLabel_at_, rd_Ins_kind, rd_Ins_op, rd_Ins_d, rd_Ins_aR, rd_Ins_aN, rd_Ins_bR, rd_Ins_bN, rd_Ins_name, rd_Ins_target, rd_Ent_pc, rd_Ent_val, rd_Ent_addr, rd_Ent_fro, rd_Ent_next, rd_Ent_done, rd_Ent_known, rd_Ent_fault, rd_Place_reg, rd_Place_n, rd_Place_secret, rd_Obs_kind, rd_Obs_at_, rd_Dir_kind, rd_Dir_n, Prg.of_cells, Sta.of_cells]
  try simp only [c_r9Op] at hp
  have hp : c.buf.length ≤ 1000000 := hp
  have e : c_r9Op.ans (p, c, i) = rb (decide (c.fin = 0 ∧ 0 ≤ i ∧ i < c.buf.length ∧ ¬ 0 ≤ ixS p (cutS c.buf i))) := rfl
  rw [e]
  have no : (¬ (c.fin = 0 ∧ 0 ≤ i ∧ i < c.buf.length)) → decide (c.fin = 0 ∧ 0 ≤ i ∧ i < c.buf.length ∧ ¬ 0 ≤ ixS p (cutS c.buf i)) = false := fun h => decide_eq_false fun q => h ⟨q.1, q.2.1, q.2.2.1⟩
  refine br_beq (fun h1 => br_dec (fun h2 => br_dec (fun h3 => ?_) (fun h3 => ?_)) (fun h2 => ?_)) (fun h1 => ?_)
  · refine ⟨PreOk.mk (by dsimp only [c_r9Blk]; omega) rfl, all_holds fun y hy => ret_le ?_⟩
    replace hy : y = decide (0 ≤ ixS p (cutS c.buf i)) := by rw [hy]; simp [v_r9Blk]
    refine rb_le ?_
    rw [hy]
    by_cases q : 0 ≤ ixS p (cutS c.buf i)
    · rw [decide_eq_true q, decide_eq_false (fun z => z.2.2.2 q)]; rfl
    · rw [decide_eq_false q, decide_eq_true ⟨h1, h2, h3, q⟩]; rfl
  · rw [no (fun q => h3 q.2.2)]; exact ret_le (RR.le_refl _)
  · rw [no (fun q => h2 q.2.1)]; exact ret_le (RR.le_refl _)
  · rw [no (fun q => h1 q.1)]; exact ret_le (RR.le_refl _)
noncomputable def v_r9Op : Prg × Conf × Int → Bool := fun x => decide (x.2.1.fin = 0 ∧ 0 ≤ x.2.2 ∧ x.2.2 < x.2.1.buf.length ∧ ¬ 0 ≤ ixS x.1 (cutS x.2.1.buf x.2.2))
noncomputable def sh_r9Op : Bool → RR := fun b => rb b
theorem e_r9Op (x : Prg × Conf × Int) : sh_r9Op (v_r9Op x) = c_r9Op.ans x := rfl
end Go.Proofs.Ytmhfhobaicklmaa.Ax
end

section
/- The machine that guesses, by the document: what may be said to it. -/
namespace Go.Proofs.Ytmhfhobaicklmaa.Ax
open Go.RowKit
set_option linter.unusedVariables false
set_option linter.unusedSimpArgs false
def rdTold : List A → Prg × Conf × Int × Ins
  | [.agg q, .agg c, .c (.int _ i), .agg r] => (Prg.of q, Conf.of c, i, Row.of r)
  | _ => default
def toldC (p : Prg) (c : Conf) (i : Int) (x : Ins) : Int × Int × Int × Bool × Bool := ((valS2 p c.regs c.buf i x.aR x.aN).1, (valS2 p c.regs c.buf i x.bR x.bN).1, (regS p c.regs c.buf i x.d).1, ((valS2 p c.regs c.buf i x.aR x.aN).2 && (valS2 p c.regs c.buf i x.bR x.bN).2), (regS p c.regs c.buf i x.d).2)
def riiibb (x : Int × Int × Int × Bool × Bool) : RR := .tup [.inl (.d (.int .i64 x.1)), .inl (.d (.int .i64 x.2.1)), .inl (.d (.int .i64 x.2.2.1)), .inl (.d (.bool x.2.2.2.1)), .inl (.d (.bool x.2.2.2.2))]
def c_r9Told : FT (Prg × Conf × Int × Ins) := ⟨102, fun x => [ap x.1, aC x.2.1, ai x.2.2.1, aIns x.2.2.2], rdTold, fun x => x.2.1.buf.length ≤ 1000000, fun x => riiibb (toldC x.1 x.2.1 x.2.2.1 x.2.2.2), false, fun x => by simp [ap, aC, ai, aIns, rdTold]; rfl⟩
noncomputable def a_r9Told : FnA := (fnA Try.prog Try.f102 4 []).getD ⟨0, .skip, [], []⟩
noncomputable def s_r9Told : Sp := spT [c_r9Val.gfe v_r9Val sh_r9Val e_r9Val, c_r9Reg.gfe v_r9Reg sh_r9Reg e_r9Reg]
theorem s_r9Told_sound : s_r9Told.sound Try.prog := spT_sound fun e he => by
  simp only [List.mem_cons, List.not_mem_nil, or_false] at he
  rcases he with rfl | rfl
  · exact FT.gfe_good c_r9Val_good
  · exact FT.gfe_good c_r9Reg_good
set_option maxRecDepth 100000 in
theorem t_r9Told (p : Prg) (c : Conf) (i : Int) (x : Ins) : a_r9Told.start s_r9Told 400 [ap p, aC c, ai i, aIns x] =
(VC.need (PreOk c_r9Val (Prg.of (Prg.cells p), { r0 := c.st.r0, r1 := c.st.r1, r2 := c.st.r2, r3 := c.st.r3 }, c.buf, i, x.aR, x.aN) [A.agg (Prg.cells p), A.agg [D.int IntKind.i64 c.st.r0, D.int IntKind.i64 c.st.r1, D.int IntKind.i64 c.st.r2, D.int IntKind.i64 c.st.r3], A.c (D.sl (rowsOn c.buf)), A.c (D.int IntKind.i64 i), A.agg [D.bool x.aR, D.int IntKind.i64 x.aN]])
(VC.all (v_r9Val (Prg.of (Prg.cells p), { r0 := c.st.r0, r1 := c.st.r1, r2 := c.st.r2, r3 := c.st.r3 }, listOf Ent (rowsOn c.buf), i, x.aR, x.aN)) fun (y4 : Int × Bool) =>
(VC.need (PreOk c_r9Val (Prg.of (Prg.cells p), { r0 := c.st.r0, r1 := c.st.r1, r2 := c.st.r2, r3 := c.st.r3 }, c.buf, i, x.bR, x.bN) [A.agg (Prg.cells p), A.agg [D.int IntKind.i64 c.st.r0, D.int IntKind.i64 c.st.r1, D.int IntKind.i64 c.st.r2, D.int IntKind.i64 c.st.r3], A.c (D.sl (rowsOn c.buf)), A.c (D.int IntKind.i64 i), A.agg [D.bool x.bR, D.int IntKind.i64 x.bN]])
(VC.all (v_r9Val (Prg.of (Prg.cells p), { r0 := c.st.r0, r1 := c.st.r1, r2 := c.st.r2, r3 := c.st.r3 }, listOf Ent (rowsOn c.buf), i, x.bR, x.bN)) fun (y5 : Int × Bool) =>
(VC.need (PreOk c_r9Reg (Prg.of (Prg.cells p), { r0 := c.st.r0, r1 := c.st.r1, r2 := c.st.r2, r3 := c.st.r3 }, c.buf, i, x.d) [A.agg (Prg.cells p), A.agg [D.int IntKind.i64 c.st.r0, D.int IntKind.i64 c.st.r1, D.int IntKind.i64 c.st.r2, D.int IntKind.i64 c.st.r3], A.c (D.sl (rowsOn c.buf)), A.c (D.int IntKind.i64 i), A.c (D.int IntKind.i64 x.d)])
(VC.all (v_r9Reg (Prg.of (Prg.cells p), { r0 := c.st.r0, r1 := c.st.r1, r2 := c.st.r2, r3 := c.st.r3 }, listOf Ent (rowsOn c.buf), i, x.d)) fun (y6 : Int × Bool) =>
(VC.br (y4.snd)
 (VC.ret (some (RR.tup [Sum.inl (Rc.d (D.int IntKind.i64 y4.fst)), Sum.inl (Rc.d (D.int IntKind.i64 y5.fst)), Sum.inl (Rc.d (D.int IntKind.i64 y6.fst)), Sum.inl (Rc.d (D.bool y5.snd)), Sum.inl (Rc.d (D.bool y6.snd))])))
 (VC.ret (some (RR.tup [Sum.inl (Rc.d (D.int IntKind.i64 y4.fst)), Sum.inl (Rc.d (D.int IntKind.i64 y5.fst)), Sum.inl (Rc.d (D.int IntKind.i64 y6.fst)), Sum.inl (Rc.d (D.bool false)), Sum.inl (Rc.d (D.bool y6.snd))])))))))))) := by kernel_rfl
theorem c_r9Told_good : c_r9Told.fe.Good Try.prog := by
  refine FT.good c_r9Told ⟨Try.f102, by kernel_rfl, by decide +kernel, by kernel_rfl⟩ (fun ⟨p, c, i, x⟩ => by first | rfl | simp [c_r9Told, rrRef, rreal, riib, rE, rrun, rstep, rins, rnum, rby, rss, rnewI, rnewE, rstab, rplaces, ri, rb, rib, riiibb, Sta.fresh]) fun ⟨p, c, i, x⟩ hp => ?_
  refine acalls_le s_r9Told_sound (fn := Try.f102) (a := a_r9Told) (nargs := 4) (tbl := []) (by kernel_rfl) (by kernel_rfl) rfl (m := 400) ?_
  show VC.holds _ _ _ (a_r9Told.start s_r9Told 400 [ap p, aC c, ai i, aIns x])
  rw [t_r9Told]
  try simp only [asRows_sl, asInt_int, asBool_bool, asStr_str, listOf_rowsOn, List.drop_zero, Prg.eta, Sta.eta, rowsOn_length, getD_drop, Nat.reduceAdd, rd_int, rd_PMem_name, rd_PMem_secret, rd_PMem_n, rd_PLabel_name, rd_PLabel_at_, rd_Ins_kind, rd_Ins_op, rd_Ins_d, rd_Ins_aR, rd_Ins_aN, rd_Ins_bR, rd_Ins_bN, rd_Ins_name, rd_Ins_target, rd_Ent_pc, rd_Ent_val, rd_Ent_addr, rd_Ent_fro, rd_Ent_next, rd_Ent_done, rd_Ent_known, rd_Ent_fault, rd_Place_reg, rd_Place_n, rd_Place_secret, rd_Obs_kind, rd_Obs_at_, rd_Dir_kind, rd_Dir_n, Prg.of_cells, Sta.of_cells]
  try simp only [c_r9Told] at hp
  have hp : c.buf.length ≤ 1000000 := hp
  have e : c_r9Told.ans (p, c, i, x) = riiibb (toldC p c i x) := rfl
  rw [e]
  refine ⟨PreOk.mk (by dsimp only [c_r9Val]; omega) rfl, all_holds fun y hy => ⟨PreOk.mk (by dsimp only [c_r9Val]; omega) rfl, all_holds fun z hz => ⟨PreOk.mk (by dsimp only [c_r9Reg]; omega) rfl, all_holds fun v hv => ?_⟩⟩⟩
  replace hy : y = valS2 p c.regs c.buf i x.aR x.aN := hy
  replace hz : z = valS2 p c.regs c.buf i x.bR x.bN := hz
  replace hv : v = regS p c.regs c.buf i x.d := hv
  unfold toldC
  rw [← hy, ← hz, ← hv]
  refine br_holds (fun h => ret_le ?_) (fun h => ret_le ?_)
  · rw [h]; exact RR.le_refl _
  · rw [h]; exact RR.le_refl _
noncomputable def v_r9Told : Prg × Conf × Int × Ins → Int × Int × Int × Bool × Bool := fun x => toldC x.1 x.2.1 x.2.2.1 x.2.2.2
noncomputable def sh_r9Told : Int × Int × Int × Bool × Bool → RR := fun y => riiibb y
theorem e_r9Told (x : Prg × Conf × Int × Ins) : sh_r9Told (v_r9Told x) = c_r9Told.ans x := rfl
theorem Conf.of_mk (c : Conf) : Conf.of [.int .i64 c.st.r0, .int .i64 c.st.r1, .int .i64 c.st.r2, .int .i64 c.st.r3, .sl (rowsOn c.st.mem), .sl (rowsOn c.st.stack), .int .i64 c.st.pc, .sl (rowsOn c.buf), .sl (rowsOn c.rsb), .int .i64 c.fin] = c := Conf.of_cells c
def openS9 (p : Prg) (c : Conf) (i : Int) : Bool := decide (c.fin = 0 ∧ 0 ≤ i ∧ i < c.buf.length ∧ ¬ 0 ≤ ixS p (cutS c.buf i))
def canS (p : Prg) (c : Conf) (i : Int) : Bool :=
  if openS9 p c i = false ∨ (rd c.buf i).done = true then false
  else
    let x := atS p.ins (rd c.buf i).pc
    let t := toldC p c i x
    if x.kind = 1 ∨ x.kind = 5 then t.2.2.2.1
    else if x.kind = 4 then t.2.2.2.1 && t.2.2.2.2
    else if x.kind = 2 then t.2.2.2.1 && (decide ((c.st.mem.length : Int) ≤ maskS p.w (IntKind.wrap .i64 (t.1 + t.2.1))) || (loadS p c.st.mem c.buf i (maskS p.w (IntKind.wrap .i64 (t.1 + t.2.1)))).2.2)
    else if x.kind = 3 then t.2.2.2.2
    else if x.kind = 7 then (valS2 p c.regs c.buf i x.aR x.aN).2
    else x.kind == 9
def c_r9Can : FT (Prg × Conf × Int) := ⟨79, fun x => [ap x.1, aC x.2.1, ai x.2.2], rdPCI, fun x => x.2.1.buf.length ≤ 1000000, fun x => rb (canS x.1 x.2.1 x.2.2), false, fun x => by simp [ap, aC, ai, rdPCI]⟩
noncomputable def a_r9Can : FnA := (fnA Try.prog Try.f79 3 []).getD ⟨0, .skip, [], []⟩
noncomputable def s_r9Can : Sp := spT [c_r9Op.gfe v_r9Op sh_r9Op e_r9Op, c_rAt.gfe v_rAt sh_rAt e_rAt, c_r9Told.gfe v_r9Told sh_r9Told e_r9Told, c_rMask.fe, c_r9Load.gfe v_r9Load sh_r9Load e_r9Load, c_r9Val.gfe v_r9Val sh_r9Val e_r9Val]
theorem s_r9Can_sound : s_r9Can.sound Try.prog := spT_sound fun e he => by
  simp only [List.mem_cons, List.not_mem_nil, or_false] at he
  rcases he with rfl | rfl | rfl | rfl | rfl | rfl
  · exact FT.gfe_good c_r9Op_good
  · exact FT.gfe_good c_rAt_good
  · exact FT.gfe_good c_r9Told_good
  · exact c_rMask_good
  · exact FT.gfe_good c_r9Load_good
  · exact FT.gfe_good c_r9Val_good
set_option maxRecDepth 100000 in
theorem t_r9Can (p : Prg) (c : Conf) (i : Int) : a_r9Can.start s_r9Can 400 [ap p, aC c, ai i] =
(VC.need (PreOk c_r9Op (Prg.of (Prg.cells p), Conf.of [D.int IntKind.i64 c.st.r0, D.int IntKind.i64 c.st.r1, D.int IntKind.i64 c.st.r2, D.int IntKind.i64 c.st.r3, D.sl (rowsOn c.st.mem), D.sl (rowsOn c.st.stack), D.int IntKind.i64 c.st.pc, D.sl (rowsOn c.buf), D.sl (rowsOn c.rsb), D.int IntKind.i64 c.fin], i) [A.agg (Prg.cells p), A.agg [D.int IntKind.i64 c.st.r0, D.int IntKind.i64 c.st.r1, D.int IntKind.i64 c.st.r2, D.int IntKind.i64 c.st.r3, D.sl (rowsOn c.st.mem), D.sl (rowsOn c.st.stack), D.int IntKind.i64 c.st.pc, D.sl (rowsOn c.buf), D.sl (rowsOn c.rsb), D.int IntKind.i64 c.fin], A.c (D.int IntKind.i64 i)])
(VC.all (v_r9Op (Prg.of (Prg.cells p), Conf.of [D.int IntKind.i64 c.st.r0, D.int IntKind.i64 c.st.r1, D.int IntKind.i64 c.st.r2, D.int IntKind.i64 c.st.r3, D.sl (rowsOn c.st.mem), D.sl (rowsOn c.st.stack), D.int IntKind.i64 c.st.pc, D.sl (rowsOn c.buf), D.sl (rowsOn c.rsb), D.int IntKind.i64 c.fin], i)) fun (y3 : Bool) =>
(VC.br (!y3)
 (VC.ret (some (RR.c (Rc.d (D.bool false)))))
 (VC.need ((0 : Int) ≤ i ∧ i < (↑(List.length (rowsOn c.buf)) : Int) ∧ List.length (rowAt (rowsOn c.buf) (Int.toNat i)) = (8 : Nat))
 (VC.need (okSh [Kd.bool] (List.drop (5 : Nat) (rowAt (rowsOn c.buf) (Int.toNat i))))
 (VC.br (asBool (List.getD (List.drop (5 : Nat) (rowAt (rowsOn c.buf) (Int.toNat i))) (0 : Nat) D.nilp))
  (VC.ret (some (RR.c (Rc.d (D.bool false)))))
  (VC.need ((0 : Int) ≤ i ∧ i < (↑(List.length (rowsOn c.buf)) : Int) ∧ List.length (rowAt (rowsOn c.buf) (Int.toNat i)) = (8 : Nat))
  (VC.need (okSh [Kd.int IntKind.i64] (List.drop (0 : Nat) (rowAt (rowsOn c.buf) (Int.toNat i))))
  (VC.need (PreOk c_rAt (Prg.of (Prg.cells p), asInt (List.getD (List.drop (0 : Nat) (rowAt (rowsOn c.buf) (Int.toNat i))) (0 : Nat) D.nilp)) [A.agg (Prg.cells p), A.c (D.int IntKind.i64 (asInt (List.getD (List.drop (0 : Nat) (rowAt (rowsOn c.buf) (Int.toNat i))) (0 : Nat) D.nilp)))])
  (VC.all (v_rAt (Prg.of (Prg.cells p), asInt (List.getD (List.drop (0 : Nat) (rowAt (rowsOn c.buf) (Int.toNat i))) (0 : Nat) D.nilp))) fun (y4 : Ins) =>
  (VC.need (PreOk c_r9Told (Prg.of (Prg.cells p), Conf.of [D.int IntKind.i64 c.st.r0, D.int IntKind.i64 c.st.r1, D.int IntKind.i64 c.st.r2, D.int IntKind.i64 c.st.r3, D.sl (rowsOn c.st.mem), D.sl (rowsOn c.st.stack), D.int IntKind.i64 c.st.pc, D.sl (rowsOn c.buf), D.sl (rowsOn c.rsb), D.int IntKind.i64 c.fin], i, Row.of [D.int IntKind.i64 y4.kind, D.int IntKind.i64 y4.op, D.int IntKind.i64 y4.d, D.bool y4.aR, D.int IntKind.i64 y4.aN, D.bool y4.bR, D.int IntKind.i64 y4.bN, D.str y4.name, D.int IntKind.i64 y4.target]) [A.agg (Prg.cells p), A.agg [D.int IntKind.i64 c.st.r0, D.int IntKind.i64 c.st.r1, D.int IntKind.i64 c.st.r2, D.int IntKind.i64 c.st.r3, D.sl (rowsOn c.st.mem), D.sl (rowsOn c.st.stack), D.int IntKind.i64 c.st.pc, D.sl (rowsOn c.buf), D.sl (rowsOn c.rsb), D.int IntKind.i64 c.fin], A.c (D.int IntKind.i64 i), A.agg [D.int IntKind.i64 y4.kind, D.int IntKind.i64 y4.op, D.int IntKind.i64 y4.d, D.bool y4.aR, D.int IntKind.i64 y4.aN, D.bool y4.bR, D.int IntKind.i64 y4.bN, D.str y4.name, D.int IntKind.i64 y4.target]])
  (VC.all (((valS2 (Prg.of (Prg.cells p)) (Conf.regs (Conf.of [D.int IntKind.i64 c.st.r0, D.int IntKind.i64 c.st.r1, D.int IntKind.i64 c.st.r2, D.int IntKind.i64 c.st.r3, D.sl (rowsOn c.st.mem), D.sl (rowsOn c.st.stack), D.int IntKind.i64 c.st.pc, D.sl (rowsOn c.buf), D.sl (rowsOn c.rsb), D.int IntKind.i64 c.fin])) (listOf Ent (rowsOn c.buf)) i (asBool (List.getD [D.int IntKind.i64 y4.kind, D.int IntKind.i64 y4.op, D.int IntKind.i64 y4.d, D.bool y4.aR, D.int IntKind.i64 y4.aN, D.bool y4.bR, D.int IntKind.i64 y4.bN, D.str y4.name, D.int IntKind.i64 y4.target] (3 : Nat) D.nilp)) (asInt (List.getD [D.int IntKind.i64 y4.kind, D.int IntKind.i64 y4.op, D.int IntKind.i64 y4.d, D.bool y4.aR, D.int IntKind.i64 y4.aN, D.bool y4.bR, D.int IntKind.i64 y4.bN, D.str y4.name, D.int IntKind.i64 y4.target] (4 : Nat) D.nilp))).fst, (valS2 (Prg.of (Prg.cells p)) (Conf.regs (Conf.of [D.int IntKind.i64 c.st.r0, D.int IntKind.i64 c.st.r1, D.int IntKind.i64 c.st.r2, D.int IntKind.i64 c.st.r3, D.sl (rowsOn c.st.mem), D.sl (rowsOn c.st.stack), D.int IntKind.i64 c.st.pc, D.sl (rowsOn c.buf), D.sl (rowsOn c.rsb), D.int IntKind.i64 c.fin])) (listOf Ent (rowsOn c.buf)) i (asBool (List.getD [D.int IntKind.i64 y4.kind, D.int IntKind.i64 y4.op, D.int IntKind.i64 y4.d, D.bool y4.aR, D.int IntKind.i64 y4.aN, D.bool y4.bR, D.int IntKind.i64 y4.bN, D.str y4.name, D.int IntKind.i64 y4.target] (5 : Nat) D.nilp)) (asInt (List.getD [D.int IntKind.i64 y4.kind, D.int IntKind.i64 y4.op, D.int IntKind.i64 y4.d, D.bool y4.aR, D.int IntKind.i64 y4.aN, D.bool y4.bR, D.int IntKind.i64 y4.bN, D.str y4.name, D.int IntKind.i64 y4.target] (6 : Nat) D.nilp))).fst, (regS (Prg.of (Prg.cells p)) (Conf.regs (Conf.of [D.int IntKind.i64 c.st.r0, D.int IntKind.i64 c.st.r1, D.int IntKind.i64 c.st.r2, D.int IntKind.i64 c.st.r3, D.sl (rowsOn c.st.mem), D.sl (rowsOn c.st.stack), D.int IntKind.i64 c.st.pc, D.sl (rowsOn c.buf), D.sl (rowsOn c.rsb), D.int IntKind.i64 c.fin])) (listOf Ent (rowsOn c.buf)) i (asInt (List.getD [D.int IntKind.i64 y4.kind, D.int IntKind.i64 y4.op, D.int IntKind.i64 y4.d, D.bool y4.aR, D.int IntKind.i64 y4.aN, D.bool y4.bR, D.int IntKind.i64 y4.bN, D.str y4.name, D.int IntKind.i64 y4.target] (2 : Nat) D.nilp))).fst, (valS2 (Prg.of (Prg.cells p)) (Conf.regs (Conf.of [D.int IntKind.i64 c.st.r0, D.int IntKind.i64 c.st.r1, D.int IntKind.i64 c.st.r2, D.int IntKind.i64 c.st.r3, D.sl (rowsOn c.st.mem), D.sl (rowsOn c.st.stack), D.int IntKind.i64 c.st.pc, D.sl (rowsOn c.buf), D.sl (rowsOn c.rsb), D.int IntKind.i64 c.fin])) (listOf Ent (rowsOn c.buf)) i (asBool (List.getD [D.int IntKind.i64 y4.kind, D.int IntKind.i64 y4.op, D.int IntKind.i64 y4.d, D.bool y4.aR, D.int IntKind.i64 y4.aN, D.bool y4.bR, D.int IntKind.i64 y4.bN, D.str y4.name, D.int IntKind.i64 y4.target] (3 : Nat) D.nilp)) (asInt (List.getD [D.int IntKind.i64 y4.kind, D.int IntKind.i64 y4.op, D.int IntKind.i64 y4.d, D.bool y4.aR, D.int IntKind.i64 y4.aN, D.bool y4.bR, D.int IntKind.i64 y4.bN, D.str y4.name, D.int IntKind.i64 y4.target] (4 : Nat) D.nilp))).snd && (valS2 (Prg.of (Prg.cells p)) (Conf.regs (Conf.of [D.int IntKind.i64 c.st.r0, D.int IntKind.i64 c.st.r1, D.int IntKind.i64 c.st.r2, D.int IntKind.i64 c.st.r3, D.sl (rowsOn c.st.mem), D.sl (rowsOn c.st.stack), D.int IntKind.i64 c.st.pc, D.sl (rowsOn c.buf), D.sl (rowsOn c.rsb), D.int IntKind.i64 c.fin])) (listOf Ent (rowsOn c.buf)) i (asBool (List.getD [D.int IntKind.i64 y4.kind, D.int IntKind.i64 y4.op, D.int IntKind.i64 y4.d, D.bool y4.aR, D.int IntKind.i64 y4.aN, D.bool y4.bR, D.int IntKind.i64 y4.bN, D.str y4.name, D.int IntKind.i64 y4.target] (5 : Nat) D.nilp)) (asInt (List.getD [D.int IntKind.i64 y4.kind, D.int IntKind.i64 y4.op, D.int IntKind.i64 y4.d, D.bool y4.aR, D.int IntKind.i64 y4.aN, D.bool y4.bR, D.int IntKind.i64 y4.bN, D.str y4.name, D.int IntKind.i64 y4.target] (6 : Nat) D.nilp))).snd, (regS (Prg.of (Prg.cells p)) (Conf.regs (Conf.of [D.int IntKind.i64 c.st.r0, D.int IntKind.i64 c.st.r1, D.int IntKind.i64 c.st.r2, D.int IntKind.i64 c.st.r3, D.sl (rowsOn c.st.mem), D.sl (rowsOn c.st.stack), D.int IntKind.i64 c.st.pc, D.sl (rowsOn c.buf), D.sl (rowsOn c.rsb), D.int IntKind.i64 c.fin])) (listOf Ent (rowsOn c.buf)) i (asInt (List.getD [D.int IntKind.i64 y4.kind, D.int IntKind.i64 y4.op, D.int IntKind.i64 y4.d, D.bool y4.aR, D.int IntKind.i64 y4.aN, D.bool y4.bR, D.int IntKind.i64 y4.bN, D.str y4.name, D.int IntKind.i64 y4.target] (2 : Nat) D.nilp))).snd)) fun (y5 : Int × Int × Int × Bool × Bool) =>
  (VC.br (y4.kind == (1 : Int))
   (VC.ret (some (RR.c (Rc.d (D.bool y5.snd.snd.snd.fst)))))
   (VC.br (y4.kind == (5 : Int))
    (VC.ret (some (RR.c (Rc.d (D.bool y5.snd.snd.snd.fst)))))
    (VC.br (y4.kind == (4 : Int))
     (VC.br (y5.snd.snd.snd.fst)
      (VC.ret (some (RR.c (Rc.d (D.bool y5.snd.snd.snd.snd)))))
      (VC.ret (some (RR.c (Rc.d (D.bool false))))))
     (VC.br (y4.kind == (2 : Int))
      (VC.need (PreOk c_rMask (p.w, IntKind.wrap IntKind.i64 (y5.fst + y5.snd.fst)) [A.c (D.int IntKind.i64 p.w), A.c (D.int IntKind.i64 (IntKind.wrap IntKind.i64 (y5.fst + y5.snd.fst)))])
      (VC.need (PreOk c_r9Load (Prg.of (Prg.cells p), c.st.mem, c.buf, i, maskS p.w (IntKind.wrap IntKind.i64 (y5.fst + y5.snd.fst))) [A.agg (Prg.cells p), A.c (D.sl (rowsOn c.st.mem)), A.c (D.sl (rowsOn c.buf)), A.c (D.int IntKind.i64 i), A.c (D.int IntKind.i64 (maskS p.w (IntKind.wrap IntKind.i64 (y5.fst + y5.snd.fst))))])
      (VC.all (v_r9Load (Prg.of (Prg.cells p), listOf Int (rowsOn c.st.mem), listOf Ent (rowsOn c.buf), i, maskS p.w (IntKind.wrap IntKind.i64 (y5.fst + y5.snd.fst)))) fun (y6 : Int × Int × Bool) =>
      (VC.br (y5.snd.snd.snd.fst)
       (VC.br (decide ((↑(List.length (rowsOn c.st.mem)) : Int) ≤ maskS p.w (IntKind.wrap IntKind.i64 (y5.fst + y5.snd.fst))))
        (VC.ret (some (RR.c (Rc.d (D.bool true)))))
        (VC.ret (some (RR.c (Rc.d (D.bool y6.snd.snd))))))
       (VC.ret (some (RR.c (Rc.d (D.bool false)))))))))
      (VC.br (y4.kind == (3 : Int))
       (VC.ret (some (RR.c (Rc.d (D.bool y5.snd.snd.snd.snd)))))
       (VC.br (y4.kind == (7 : Int))
        (VC.need (PreOk c_r9Val (Prg.of (Prg.cells p), { r0 := c.st.r0, r1 := c.st.r1, r2 := c.st.r2, r3 := c.st.r3 }, c.buf, i, y4.aR, y4.aN) [A.agg (Prg.cells p), A.agg [D.int IntKind.i64 c.st.r0, D.int IntKind.i64 c.st.r1, D.int IntKind.i64 c.st.r2, D.int IntKind.i64 c.st.r3], A.c (D.sl (rowsOn c.buf)), A.c (D.int IntKind.i64 i), A.agg [D.bool y4.aR, D.int IntKind.i64 y4.aN]])
        (VC.all (v_r9Val (Prg.of (Prg.cells p), { r0 := c.st.r0, r1 := c.st.r1, r2 := c.st.r2, r3 := c.st.r3 }, listOf Ent (rowsOn c.buf), i, y4.aR, y4.aN)) fun (y6 : Int × Bool) =>
        (VC.ret (some (RR.c (Rc.d (D.bool y6.snd)))))))
        (VC.ret (some (RR.c (Rc.d (D.bool (y4.kind == (9 : Int))))))))))))))))))))))))) := by kernel_rfl
theorem open_in {p : Prg} {c : Conf} {i : Int} (h : openS9 p c i = true) : 0 ≤ i ∧ i < c.buf.length := by
  unfold openS9 at h
  exact ⟨(of_decide_eq_true h).2.1, (of_decide_eq_true h).2.2.1⟩
theorem c_r9Can_good : c_r9Can.fe.Good Try.prog := by
  refine FT.good c_r9Can ⟨Try.f79, by kernel_rfl, by decide +kernel, by kernel_rfl⟩ (fun ⟨p, c, i⟩ => by first | rfl | simp [c_r9Can, rrRef, rreal, riib, rE, rrun, rstep, rins, rnum, rby, rss, rnewI, rnewE, rstab, rplaces, ri, rb, rib, riiibb, Sta.fresh]) fun ⟨p, c, i⟩ hp => ?_
  refine acalls_le s_r9Can_sound (fn := Try.f79) (a := a_r9Can) (nargs := 3) (tbl := []) (by kernel_rfl) (by kernel_rfl) rfl (m := 400) ?_
  show VC.holds _ _ _ (a_r9Can.start s_r9Can 400 [ap p, aC c, ai i])
  rw [t_r9Can]
  try simp only [asRows_sl, asInt_int, asBool_bool, asStr_str, listOf_rowsOn, List.drop_zero, Prg.eta, Sta.eta, rowsOn_length, getD_drop, Nat.reduceAdd, rd_int, rd_PMem_name, rd_PMem_secret, rd_PMem_n, rd_PLabel_name, rd_PLabel_at_, rd_Ins_kind, rd_Ins_op, rd_Ins_d, rd_Ins_aR, rd_Ins_aN, rd_Ins_bR, rd_Ins_bN, rd_Ins_name, rd_Ins_target, rd_Ent_pc, rd_Ent_val, rd_Ent_addr, rd_Ent_fro, rd_Ent_next, rd_Ent_done, rd_Ent_known, rd_Ent_fault, rd_Place_reg, rd_Place_n, rd_Place_secret, rd_Obs_kind, rd_Obs_at_, rd_Dir_kind, rd_Dir_n, Prg.of_cells, Sta.of_cells]
  try simp only [c_r9Can] at hp
  have hp : c.buf.length ≤ 1000000 := hp
  have e : c_r9Can.ans (p, c, i) = rb (canS p c i) := rfl
  simp only [Conf.of_mk]
  rw [e]
  unfold canS
  refine ⟨PreOk.mk hp rfl, all_holds fun y hy => ?_⟩
  replace hy : y = openS9 p c i := hy
  refine br_not (br_holds (fun ho => ?_) (fun ho => ?_))
  · rw [hy] at ho
    obtain ⟨i0, i1⟩ := open_in ho
    have g := ent_ok c.buf i i0 i1
    refine ⟨g, okSh_okD [Kd.bool] 5 c.buf i (fun _ => rfl) i0 i1, br_holds (fun hd => ?_) (fun hd => ?_)⟩
    · rw [if_pos (.inr hd)]; exact ret_le (RR.le_refl _)
    rw [if_neg (by rintro (q | q); · rw [ho] at q; cases q
                   · rw [hd] at q; cases q)]
    refine ⟨g, okSh_okD [Kd.int .i64] 0 c.buf i (fun _ => rfl) i0 i1, PreOk.mk trivial rfl, all_holds fun x hx => ⟨PreOk.mk hp rfl, all_holds fun t ht => ?_⟩⟩
    replace hx : x = atS p.ins (rd c.buf i).pc := hx
    replace ht : t = toldC p c i x := ht
    rw [← hx]
    dsimp only
    rw [← ht]
    refine br_beq (fun k1 => ?_) (fun k1 => br_beq (fun k2 => ?_) (fun k2 => br_beq (fun k3 => ?_) (fun k3 => br_beq (fun k4 => ?_) (fun k4 => br_beq (fun k5 => ?_) (fun k5 => br_beq (fun k6 => ?_) (fun k6 => ?_))))))
    · rw [if_pos (.inl k1)]; exact ret_le (RR.le_refl _)
    · rw [if_pos (.inr k2)]; exact ret_le (RR.le_refl _)
    · rw [if_neg (by omega), if_pos k3]
      refine br_holds (fun q => ?_) (fun q => ?_)
      · rw [q, Bool.true_and]; exact ret_le (RR.le_refl _)
      · rw [q, Bool.false_and]; exact ret_le (RR.le_refl _)
    · rw [if_neg (by omega), if_neg k3, if_pos k4]
      refine ⟨PreOk.mk trivial rfl, PreOk.mk (by dsimp only [c_r9Load]; omega) rfl, all_holds fun v hv => br_holds (fun q => ?_) (fun q => ?_)⟩
      · replace hv : v = loadS p c.st.mem c.buf i (maskS p.w (IntKind.wrap .i64 (t.1 + t.2.1))) := hv
        rw [q, Bool.true_and, ← hv]
        refine br_dec (fun z => ?_) (fun z => ?_)
        · rw [decide_eq_true z, Bool.true_or]; exact ret_le (RR.le_refl _)
        · rw [decide_eq_false z, Bool.false_or]; exact ret_le (RR.le_refl _)
      · rw [q, Bool.false_and]; exact ret_le (RR.le_refl _)
    · rw [if_neg (by omega), if_neg k3, if_neg k4, if_pos k5]; exact ret_le (RR.le_refl _)
    · rw [if_neg (by omega), if_neg k3, if_neg k4, if_neg k5, if_pos k6]
      refine ⟨PreOk.mk (by dsimp only [c_r9Val]; omega) rfl, all_holds fun v hv => ret_le ?_⟩
      replace hv : v = valS2 p c.regs c.buf i x.aR x.aN := hv
      rw [hv]; exact RR.le_refl _
    · rw [if_neg (by omega), if_neg k3, if_neg k4, if_neg k5, if_neg k6]; exact ret_le (RR.le_refl _)
  · rw [hy] at ho
    rw [if_pos (.inl ho)]; exact ret_le (RR.le_refl _)
noncomputable def v_r9Can : Prg × Conf × Int → Bool := fun x => canS x.1 x.2.1 x.2.2
noncomputable def sh_r9Can : Bool → RR := fun b => rb b
theorem e_r9Can (x : Prg × Conf × Int) : sh_r9Can (v_r9Can x) = c_r9Can.ans x := rfl
def canAS (p : Prg) (c : Conf) (i : Int) : Bool :=
  if openS9 p c i = false ∨ (rd c.buf i).known = true then false
  else (atS p.ins (rd c.buf i).pc).kind == 3 && (toldC p c i (atS p.ins (rd c.buf i).pc)).2.2.2.1
def c_r9CanA : FT (Prg × Conf × Int) := ⟨80, fun x => [ap x.1, aC x.2.1, ai x.2.2], rdPCI, fun x => x.2.1.buf.length ≤ 1000000, fun x => rb (canAS x.1 x.2.1 x.2.2), false, fun x => by simp [ap, aC, ai, rdPCI]⟩
noncomputable def a_r9CanA : FnA := (fnA Try.prog Try.f80 3 []).getD ⟨0, .skip, [], []⟩
noncomputable def s_r9CanA : Sp := spT [c_r9Op.gfe v_r9Op sh_r9Op e_r9Op, c_rAt.gfe v_rAt sh_rAt e_rAt, c_r9Told.gfe v_r9Told sh_r9Told e_r9Told]
theorem s_r9CanA_sound : s_r9CanA.sound Try.prog := spT_sound fun e he => by
  simp only [List.mem_cons, List.not_mem_nil, or_false] at he
  rcases he with rfl | rfl | rfl
  · exact FT.gfe_good c_r9Op_good
  · exact FT.gfe_good c_rAt_good
  · exact FT.gfe_good c_r9Told_good
set_option maxRecDepth 100000 in
theorem t_r9CanA (p : Prg) (c : Conf) (i : Int) : a_r9CanA.start s_r9CanA 400 [ap p, aC c, ai i] =
(VC.need (PreOk c_r9Op (Prg.of (Prg.cells p), Conf.of [D.int IntKind.i64 c.st.r0, D.int IntKind.i64 c.st.r1, D.int IntKind.i64 c.st.r2, D.int IntKind.i64 c.st.r3, D.sl (rowsOn c.st.mem), D.sl (rowsOn c.st.stack), D.int IntKind.i64 c.st.pc, D.sl (rowsOn c.buf), D.sl (rowsOn c.rsb), D.int IntKind.i64 c.fin], i) [A.agg (Prg.cells p), A.agg [D.int IntKind.i64 c.st.r0, D.int IntKind.i64 c.st.r1, D.int IntKind.i64 c.st.r2, D.int IntKind.i64 c.st.r3, D.sl (rowsOn c.st.mem), D.sl (rowsOn c.st.stack), D.int IntKind.i64 c.st.pc, D.sl (rowsOn c.buf), D.sl (rowsOn c.rsb), D.int IntKind.i64 c.fin], A.c (D.int IntKind.i64 i)])
(VC.all (v_r9Op (Prg.of (Prg.cells p), Conf.of [D.int IntKind.i64 c.st.r0, D.int IntKind.i64 c.st.r1, D.int IntKind.i64 c.st.r2, D.int IntKind.i64 c.st.r3, D.sl (rowsOn c.st.mem), D.sl (rowsOn c.st.stack), D.int IntKind.i64 c.st.pc, D.sl (rowsOn c.buf), D.sl (rowsOn c.rsb), D.int IntKind.i64 c.fin], i)) fun (y3 : Bool) =>
(VC.br (!y3)
 (VC.ret (some (RR.c (Rc.d (D.bool false)))))
 (VC.need ((0 : Int) ≤ i ∧ i < (↑(List.length (rowsOn c.buf)) : Int) ∧ List.length (rowAt (rowsOn c.buf) (Int.toNat i)) = (8 : Nat))
 (VC.need (okSh [Kd.bool] (List.drop (6 : Nat) (rowAt (rowsOn c.buf) (Int.toNat i))))
 (VC.br (asBool (List.getD (List.drop (6 : Nat) (rowAt (rowsOn c.buf) (Int.toNat i))) (0 : Nat) D.nilp))
  (VC.ret (some (RR.c (Rc.d (D.bool false)))))
  (VC.need ((0 : Int) ≤ i ∧ i < (↑(List.length (rowsOn c.buf)) : Int) ∧ List.length (rowAt (rowsOn c.buf) (Int.toNat i)) = (8 : Nat))
  (VC.need (okSh [Kd.int IntKind.i64] (List.drop (0 : Nat) (rowAt (rowsOn c.buf) (Int.toNat i))))
  (VC.need (PreOk c_rAt (Prg.of (Prg.cells p), asInt (List.getD (List.drop (0 : Nat) (rowAt (rowsOn c.buf) (Int.toNat i))) (0 : Nat) D.nilp)) [A.agg (Prg.cells p), A.c (D.int IntKind.i64 (asInt (List.getD (List.drop (0 : Nat) (rowAt (rowsOn c.buf) (Int.toNat i))) (0 : Nat) D.nilp)))])
  (VC.all (v_rAt (Prg.of (Prg.cells p), asInt (List.getD (List.drop (0 : Nat) (rowAt (rowsOn c.buf) (Int.toNat i))) (0 : Nat) D.nilp))) fun (y4 : Ins) =>
  (VC.need (PreOk c_r9Told (Prg.of (Prg.cells p), Conf.of [D.int IntKind.i64 c.st.r0, D.int IntKind.i64 c.st.r1, D.int IntKind.i64 c.st.r2, D.int IntKind.i64 c.st.r3, D.sl (rowsOn c.st.mem), D.sl (rowsOn c.st.stack), D.int IntKind.i64 c.st.pc, D.sl (rowsOn c.buf), D.sl (rowsOn c.rsb), D.int IntKind.i64 c.fin], i, Row.of [D.int IntKind.i64 y4.kind, D.int IntKind.i64 y4.op, D.int IntKind.i64 y4.d, D.bool y4.aR, D.int IntKind.i64 y4.aN, D.bool y4.bR, D.int IntKind.i64 y4.bN, D.str y4.name, D.int IntKind.i64 y4.target]) [A.agg (Prg.cells p), A.agg [D.int IntKind.i64 c.st.r0, D.int IntKind.i64 c.st.r1, D.int IntKind.i64 c.st.r2, D.int IntKind.i64 c.st.r3, D.sl (rowsOn c.st.mem), D.sl (rowsOn c.st.stack), D.int IntKind.i64 c.st.pc, D.sl (rowsOn c.buf), D.sl (rowsOn c.rsb), D.int IntKind.i64 c.fin], A.c (D.int IntKind.i64 i), A.agg [D.int IntKind.i64 y4.kind, D.int IntKind.i64 y4.op, D.int IntKind.i64 y4.d, D.bool y4.aR, D.int IntKind.i64 y4.aN, D.bool y4.bR, D.int IntKind.i64 y4.bN, D.str y4.name, D.int IntKind.i64 y4.target]])
  (VC.all (((valS2 (Prg.of (Prg.cells p)) (Conf.regs (Conf.of [D.int IntKind.i64 c.st.r0, D.int IntKind.i64 c.st.r1, D.int IntKind.i64 c.st.r2, D.int IntKind.i64 c.st.r3, D.sl (rowsOn c.st.mem), D.sl (rowsOn c.st.stack), D.int IntKind.i64 c.st.pc, D.sl (rowsOn c.buf), D.sl (rowsOn c.rsb), D.int IntKind.i64 c.fin])) (listOf Ent (rowsOn c.buf)) i (asBool (List.getD [D.int IntKind.i64 y4.kind, D.int IntKind.i64 y4.op, D.int IntKind.i64 y4.d, D.bool y4.aR, D.int IntKind.i64 y4.aN, D.bool y4.bR, D.int IntKind.i64 y4.bN, D.str y4.name, D.int IntKind.i64 y4.target] (3 : Nat) D.nilp)) (asInt (List.getD [D.int IntKind.i64 y4.kind, D.int IntKind.i64 y4.op, D.int IntKind.i64 y4.d, D.bool y4.aR, D.int IntKind.i64 y4.aN, D.bool y4.bR, D.int IntKind.i64 y4.bN, D.str y4.name, D.int IntKind.i64 y4.target] (4 : Nat) D.nilp))).fst, (valS2 (Prg.of (Prg.cells p)) (Conf.regs (Conf.of [D.int IntKind.i64 c.st.r0, D.int IntKind.i64 c.st.r1, D.int IntKind.i64 c.st.r2, D.int IntKind.i64 c.st.r3, D.sl (rowsOn c.st.mem), D.sl (rowsOn c.st.stack), D.int IntKind.i64 c.st.pc, D.sl (rowsOn c.buf), D.sl (rowsOn c.rsb), D.int IntKind.i64 c.fin])) (listOf Ent (rowsOn c.buf)) i (asBool (List.getD [D.int IntKind.i64 y4.kind, D.int IntKind.i64 y4.op, D.int IntKind.i64 y4.d, D.bool y4.aR, D.int IntKind.i64 y4.aN, D.bool y4.bR, D.int IntKind.i64 y4.bN, D.str y4.name, D.int IntKind.i64 y4.target] (5 : Nat) D.nilp)) (asInt (List.getD [D.int IntKind.i64 y4.kind, D.int IntKind.i64 y4.op, D.int IntKind.i64 y4.d, D.bool y4.aR, D.int IntKind.i64 y4.aN, D.bool y4.bR, D.int IntKind.i64 y4.bN, D.str y4.name, D.int IntKind.i64 y4.target] (6 : Nat) D.nilp))).fst, (regS (Prg.of (Prg.cells p)) (Conf.regs (Conf.of [D.int IntKind.i64 c.st.r0, D.int IntKind.i64 c.st.r1, D.int IntKind.i64 c.st.r2, D.int IntKind.i64 c.st.r3, D.sl (rowsOn c.st.mem), D.sl (rowsOn c.st.stack), D.int IntKind.i64 c.st.pc, D.sl (rowsOn c.buf), D.sl (rowsOn c.rsb), D.int IntKind.i64 c.fin])) (listOf Ent (rowsOn c.buf)) i (asInt (List.getD [D.int IntKind.i64 y4.kind, D.int IntKind.i64 y4.op, D.int IntKind.i64 y4.d, D.bool y4.aR, D.int IntKind.i64 y4.aN, D.bool y4.bR, D.int IntKind.i64 y4.bN, D.str y4.name, D.int IntKind.i64 y4.target] (2 : Nat) D.nilp))).fst, (valS2 (Prg.of (Prg.cells p)) (Conf.regs (Conf.of [D.int IntKind.i64 c.st.r0, D.int IntKind.i64 c.st.r1, D.int IntKind.i64 c.st.r2, D.int IntKind.i64 c.st.r3, D.sl (rowsOn c.st.mem), D.sl (rowsOn c.st.stack), D.int IntKind.i64 c.st.pc, D.sl (rowsOn c.buf), D.sl (rowsOn c.rsb), D.int IntKind.i64 c.fin])) (listOf Ent (rowsOn c.buf)) i (asBool (List.getD [D.int IntKind.i64 y4.kind, D.int IntKind.i64 y4.op, D.int IntKind.i64 y4.d, D.bool y4.aR, D.int IntKind.i64 y4.aN, D.bool y4.bR, D.int IntKind.i64 y4.bN, D.str y4.name, D.int IntKind.i64 y4.target] (3 : Nat) D.nilp)) (asInt (List.getD [D.int IntKind.i64 y4.kind, D.int IntKind.i64 y4.op, D.int IntKind.i64 y4.d, D.bool y4.aR, D.int IntKind.i64 y4.aN, D.bool y4.bR, D.int IntKind.i64 y4.bN, D.str y4.name, D.int IntKind.i64 y4.target] (4 : Nat) D.nilp))).snd && (valS2 (Prg.of (Prg.cells p)) (Conf.regs (Conf.of [D.int IntKind.i64 c.st.r0, D.int IntKind.i64 c.st.r1, D.int IntKind.i64 c.st.r2, D.int IntKind.i64 c.st.r3, D.sl (rowsOn c.st.mem), D.sl (rowsOn c.st.stack), D.int IntKind.i64 c.st.pc, D.sl (rowsOn c.buf), D.sl (rowsOn c.rsb), D.int IntKind.i64 c.fin])) (listOf Ent (rowsOn c.buf)) i (asBool (List.getD [D.int IntKind.i64 y4.kind, D.int IntKind.i64 y4.op, D.int IntKind.i64 y4.d, D.bool y4.aR, D.int IntKind.i64 y4.aN, D.bool y4.bR, D.int IntKind.i64 y4.bN, D.str y4.name, D.int IntKind.i64 y4.target] (5 : Nat) D.nilp)) (asInt (List.getD [D.int IntKind.i64 y4.kind, D.int IntKind.i64 y4.op, D.int IntKind.i64 y4.d, D.bool y4.aR, D.int IntKind.i64 y4.aN, D.bool y4.bR, D.int IntKind.i64 y4.bN, D.str y4.name, D.int IntKind.i64 y4.target] (6 : Nat) D.nilp))).snd, (regS (Prg.of (Prg.cells p)) (Conf.regs (Conf.of [D.int IntKind.i64 c.st.r0, D.int IntKind.i64 c.st.r1, D.int IntKind.i64 c.st.r2, D.int IntKind.i64 c.st.r3, D.sl (rowsOn c.st.mem), D.sl (rowsOn c.st.stack), D.int IntKind.i64 c.st.pc, D.sl (rowsOn c.buf), D.sl (rowsOn c.rsb), D.int IntKind.i64 c.fin])) (listOf Ent (rowsOn c.buf)) i (asInt (List.getD [D.int IntKind.i64 y4.kind, D.int IntKind.i64 y4.op, D.int IntKind.i64 y4.d, D.bool y4.aR, D.int IntKind.i64 y4.aN, D.bool y4.bR, D.int IntKind.i64 y4.bN, D.str y4.name, D.int IntKind.i64 y4.target] (2 : Nat) D.nilp))).snd)) fun (y5 : Int × Int × Int × Bool × Bool) =>
  (VC.br (y4.kind == (3 : Int))
   (VC.ret (some (RR.c (Rc.d (D.bool y5.snd.snd.snd.fst)))))
   (VC.ret (some (RR.c (Rc.d (D.bool false)))))))))))))))))) := by kernel_rfl
theorem c_r9CanA_good : c_r9CanA.fe.Good Try.prog := by
  refine FT.good c_r9CanA ⟨Try.f80, by kernel_rfl, by decide +kernel, by kernel_rfl⟩ (fun ⟨p, c, i⟩ => by first | rfl | simp [c_r9CanA, rrRef, rreal, riib, rE, rrun, rstep, rins, rnum, rby, rss, rnewI, rnewE, rstab, rplaces, ri, rb, rib, riiibb, Sta.fresh]) fun ⟨p, c, i⟩ hp => ?_
  refine acalls_le s_r9CanA_sound (fn := Try.f80) (a := a_r9CanA) (nargs := 3) (tbl := []) (by kernel_rfl) (by kernel_rfl) rfl (m := 400) ?_
  show VC.holds _ _ _ (a_r9CanA.start s_r9CanA 400 [ap p, aC c, ai i])
  rw [t_r9CanA]
  try simp only [asRows_sl, asInt_int, asBool_bool, asStr_str, listOf_rowsOn, List.drop_zero, Prg.eta, Sta.eta, rowsOn_length, getD_drop, Nat.reduceAdd, rd_int, rd_PMem_name, rd_PMem_secret, rd_PMem_n, rd_PLabel_name, rd_PLabel_at_, rd_Ins_kind, rd_Ins_op, rd_Ins_d, rd_Ins_aR, rd_Ins_aN, rd_Ins_bR, rd_Ins_bN, rd_Ins_name, rd_Ins_target, rd_Ent_pc, rd_Ent_val, rd_Ent_addr, rd_Ent_fro, rd_Ent_next, rd_Ent_done, rd_Ent_known, rd_Ent_fault, rd_Place_reg, rd_Place_n, rd_Place_secret, rd_Obs_kind, rd_Obs_at_, rd_Dir_kind, rd_Dir_n, Prg.of_cells, Sta.of_cells]
  try simp only [c_r9CanA] at hp
  have hp : c.buf.length ≤ 1000000 := hp
  have e : c_r9CanA.ans (p, c, i) = rb (canAS p c i) := rfl
  simp only [Conf.of_mk]
  rw [e]
  unfold canAS
  refine ⟨PreOk.mk hp rfl, all_holds fun y hy => ?_⟩
  replace hy : y = openS9 p c i := hy
  refine br_not (br_holds (fun ho => ?_) (fun ho => ?_))
  · rw [hy] at ho
    obtain ⟨i0, i1⟩ := open_in ho
    have g := ent_ok c.buf i i0 i1
    refine ⟨g, okSh_okD [Kd.bool] 6 c.buf i (fun _ => rfl) i0 i1, br_holds (fun hd => ?_) (fun hd => ?_)⟩
    · rw [if_pos (.inr hd)]; exact ret_le (RR.le_refl _)
    rw [if_neg (by rintro (q | q); · rw [ho] at q; cases q
                   · rw [hd] at q; cases q)]
    refine ⟨g, okSh_okD [Kd.int .i64] 0 c.buf i (fun _ => rfl) i0 i1, PreOk.mk trivial rfl, all_holds fun x hx => ⟨PreOk.mk hp rfl, all_holds fun t ht => ?_⟩⟩
    replace hx : x = atS p.ins (rd c.buf i).pc := hx
    replace ht : t = toldC p c i x := ht
    rw [← hx, ← ht]
    refine br_holds (fun q => ?_) (fun q => ?_)
    · rw [q, Bool.true_and]; exact ret_le (RR.le_refl _)
    · rw [q, Bool.false_and]; exact ret_le (RR.le_refl _)
  · rw [hy] at ho
    rw [if_pos (.inl ho)]; exact ret_le (RR.le_refl _)
noncomputable def v_r9CanA : Prg × Conf × Int → Bool := fun x => canAS x.1 x.2.1 x.2.2
noncomputable def sh_r9CanA : Bool → RR := fun b => rb b
theorem e_r9CanA (x : Prg × Conf × Int) : sh_r9CanA (v_r9CanA x) = c_r9CanA.ans x := rfl
def canRS (p : Prg) (c : Conf) : Bool :=
  if c.fin ≠ 0 ∨ c.buf.length = 0 then false
  else ((rd c.buf 0).done || (atS p.ins (rd c.buf 0).pc).kind == 10) && ((atS p.ins (rd c.buf 0).pc).kind != 3 || (rd c.buf 0).known)
def c_r9CanR : FT (Prg × Conf) := ⟨81, fun x => [ap x.1, aC x.2], rdPC, fun x => x.2.buf.length ≤ 1000000, fun x => rb (canRS x.1 x.2), false, fun x => by simp [ap, aC, rdPC]⟩
noncomputable def a_r9CanR : FnA := (fnA Try.prog Try.f81 2 []).getD ⟨0, .skip, [], []⟩
noncomputable def s_r9CanR : Sp := spT [c_rAt.gfe v_rAt sh_rAt e_rAt]
theorem s_r9CanR_sound : s_r9CanR.sound Try.prog := spT_sound fun e he => by
  simp only [List.mem_cons, List.not_mem_nil, or_false] at he
  rcases he with rfl
  · exact FT.gfe_good c_rAt_good
set_option maxRecDepth 100000 in
theorem t_r9CanR (p : Prg) (c : Conf) : a_r9CanR.start s_r9CanR 400 [ap p, aC c] =
(VC.br (c.fin != (0 : Int))
 (VC.ret (some (RR.c (Rc.d (D.bool false)))))
 (VC.br ((↑(List.length (rowsOn c.buf)) : Int) == (0 : Int))
  (VC.ret (some (RR.c (Rc.d (D.bool false)))))
  (VC.need ((0 : Int) ≤ (0 : Int) ∧ (0 : Int) < (↑(List.length (rowsOn c.buf)) : Int) ∧ List.length (rowAt (rowsOn c.buf) (0 : Nat)) = (8 : Nat))
  (VC.need (okSh [Kd.int IntKind.i64, Kd.int IntKind.i64, Kd.int IntKind.i64, Kd.int IntKind.i64, Kd.int IntKind.i64, Kd.bool, Kd.bool, Kd.bool] (rowAt (rowsOn c.buf) (0 : Nat)))
  (VC.need (PreOk c_rAt (Prg.of (Prg.cells p), asInt (List.getD (rowAt (rowsOn c.buf) (0 : Nat)) (0 : Nat) D.nilp)) [A.agg (Prg.cells p), A.c (D.int IntKind.i64 (asInt (List.getD (rowAt (rowsOn c.buf) (0 : Nat)) (0 : Nat) D.nilp)))])
  (VC.all (v_rAt (Prg.of (Prg.cells p), asInt (List.getD (rowAt (rowsOn c.buf) (0 : Nat)) (0 : Nat) D.nilp))) fun (y2 : Ins) =>
  (VC.br (asBool (List.getD (rowAt (rowsOn c.buf) (0 : Nat)) (5 : Nat) D.nilp))
   (VC.br (y2.kind != (3 : Int))
    (VC.ret (some (RR.c (Rc.d (D.bool true)))))
    (VC.ret (some (RR.c (Rc.d (D.bool (asBool (List.getD (rowAt (rowsOn c.buf) (0 : Nat)) (6 : Nat) D.nilp))))))))
   (VC.br (y2.kind == (10 : Int))
    (VC.br (y2.kind != (3 : Int))
     (VC.ret (some (RR.c (Rc.d (D.bool true)))))
     (VC.ret (some (RR.c (Rc.d (D.bool (asBool (List.getD (rowAt (rowsOn c.buf) (0 : Nat)) (6 : Nat) D.nilp))))))))
    (VC.ret (some (RR.c (Rc.d (D.bool false))))))))))))) := by kernel_rfl
theorem c_r9CanR_good : c_r9CanR.fe.Good Try.prog := by
  refine FT.good c_r9CanR ⟨Try.f81, by kernel_rfl, by decide +kernel, by kernel_rfl⟩ (fun ⟨p, c⟩ => by first | rfl | simp [c_r9CanR, rrRef, rreal, riib, rE, rrun, rstep, rins, rnum, rby, rss, rnewI, rnewE, rstab, rplaces, ri, rb, rib, riiibb, Sta.fresh]) fun ⟨p, c⟩ hp => ?_
  refine acalls_le s_r9CanR_sound (fn := Try.f81) (a := a_r9CanR) (nargs := 2) (tbl := []) (by kernel_rfl) (by kernel_rfl) rfl (m := 400) ?_
  show VC.holds _ _ _ (a_r9CanR.start s_r9CanR 400 [ap p, aC c])
  rw [t_r9CanR]
  try simp only [asRows_sl, asInt_int, asBool_bool, asStr_str, listOf_rowsOn, List.drop_zero, Prg.eta, Sta.eta, rowsOn_length, getD_drop, Nat.reduceAdd, rd_int, rd_PMem_name, rd_PMem_secret, rd_PMem_n, rd_PLabel_name, rd_PLabel_at_, rd_Ins_kind, rd_Ins_op, rd_Ins_d, rd_Ins_aR, rd_Ins_aN, rd_Ins_bR, rd_Ins_bN, rd_Ins_name, rd_Ins_target, rd_Ent_pc, rd_Ent_val, rd_Ent_addr, rd_Ent_fro, rd_Ent_next, rd_Ent_done, rd_Ent_known, rd_Ent_fault, rd_Place_reg, rd_Place_n, rd_Place_secret, rd_Obs_kind, rd_Obs_at_, rd_Dir_kind, rd_Dir_n, Prg.of_cells, Sta.of_cells]
  try simp only [c_r9CanR] at hp
  have hp : c.buf.length ≤ 1000000 := hp
  have e : c_r9CanR.ans (p, c) = rb (canRS p c) := rfl
  rw [e]
  unfold canRS
  refine br_bne (fun h1 => ?_) (fun h1 => br_beq (fun h2 => ?_) (fun h2 => ?_))
  · rw [if_pos (.inl h1)]; exact ret_le (RR.le_refl _)
  · rw [if_pos (.inr (by omega))]; exact ret_le (RR.le_refl _)
  rw [if_neg (by rintro (q | q); · exact q h1
                 · exact h2 (by omega))]
  have g := ent_ok c.buf 0 (by omega) (by omega)
  have er : rowAt (rowsOn c.buf) 0 = row (rd c.buf 0) := rowAt_on c.buf 0 (by omega) (by omega)
  rw [er]
  refine ⟨by rw [← er]; exact g, rfl, PreOk.mk trivial rfl, all_holds fun x hx => ?_⟩
  replace hx : x = atS p.ins (rd c.buf 0).pc := hx
  rw [← hx]
  have e5 : asBool ((row (rd c.buf 0)).getD 5 D.nilp) = (rd c.buf 0).done := rfl
  have e6 : asBool ((row (rd c.buf 0)).getD 6 D.nilp) = (rd c.buf 0).known := rfl
  rw [e5, e6]
  have k : (x.kind != 3) = true ∨ (x.kind != 3) = false := by cases (x.kind != 3) <;> simp
  refine br_holds (fun d => ?_) (fun d => br_holds (fun d2 => ?_) (fun d2 => ?_))
  · rw [d, Bool.true_or, Bool.true_and]
    refine br_holds (fun d3 => ?_) (fun d3 => ?_)
    · rw [d3, Bool.true_or]; exact ret_le (RR.le_refl _)
    · rw [d3, Bool.false_or]; exact ret_le (RR.le_refl _)
  · rw [d2, Bool.or_true, Bool.true_and]
    refine br_holds (fun d3 => ?_) (fun d3 => ?_)
    · rw [d3, Bool.true_or]; exact ret_le (RR.le_refl _)
    · rw [d3, Bool.false_or]; exact ret_le (RR.le_refl _)
  · rw [d, d2, Bool.false_or, Bool.false_and]; exact ret_le (RR.le_refl _)
noncomputable def v_r9CanR : Prg × Conf → Bool := fun x => canRS x.1 x.2
noncomputable def sh_r9CanR : Bool → RR := fun b => rb b
theorem e_r9CanR (x : Prg × Conf) : sh_r9CanR (v_r9CanR x) = c_r9CanR.ans x := rfl
end Go.Proofs.Ytmhfhobaicklmaa.Ax
end

section
/- The machine that guesses, by the document: what may be committed, popping. -/
namespace Go.Proofs.Ytmhfhobaicklmaa.Ax
open Go.RowKit
set_option linter.unusedVariables false
set_option linter.unusedSimpArgs false
def popE (e : Ent) : Ent := if 0 ≤ e.fro then { e with fro := IntKind.wrap .i64 (e.fro - 1) } else e
def popS (l : List Ent) : List Ent := (l.drop 1).map popE
def rdE1 : List A → List Ent × Unit
  | [.c (.sl l)] => (listOf Ent l, ())
  | _ => default
def c_r9Pop : FT (List Ent × Unit) := ⟨108, fun x => [aE x.1], rdE1, fun x => x.1.length ≤ 1000000, fun x => rE (popS x.1), true, fun x => by simp [aE, rdE1]⟩
noncomputable def a_r9Pop : FnA := (fnA Try.prog Try.f108 1 [(3, [0, 3, 4, 1000003000000900001008])]).getD ⟨0, .skip, [], []⟩
def s_r9Pop : Sp := spT []
theorem s_r9Pop_sound : s_r9Pop.sound Try.prog := spT_sound fun e he => by cases he
def F_pop (l : List Ent) (n : Nat) (R : List (List D)) (k : Int) : St := ⟨mkS 28 [(0, vr (rowsOn l)), (3, vo 900001 n), (4, vi k)], [(900001, ba 8 R)]⟩
set_option maxRecDepth 100000 in
theorem t_r9Pop (l : List Ent) : a_r9Pop.start s_r9Pop 400 [aE l] =
(FnA.at_ a_r9Pop 0 (F_pop l (0 : Nat) [] (1 : Int))) := by kernel_rfl
set_option maxRecDepth 100000 in
theorem t_pop0 (l : List Ent) (n : Nat) (R : List (List D)) (k : Int) : a_r9Pop.round s_r9Pop 400 0 (F_pop l n R k) =
(VC.br (decide (k < (↑(List.length (rowsOn l)) : Int)))
 (VC.need ((0 : Int) ≤ k ∧ k < (↑(List.length (rowsOn l)) : Int) ∧ List.length (rowAt (rowsOn l) (Int.toNat k)) = (8 : Nat))
 (VC.need (okSh [Kd.int IntKind.i64, Kd.int IntKind.i64, Kd.int IntKind.i64, Kd.int IntKind.i64, Kd.int IntKind.i64, Kd.bool, Kd.bool, Kd.bool] (rowAt (rowsOn l) (Int.toNat k)))
 (VC.br (decide ((0 : Int) ≤ asInt (List.getD (rowAt (rowsOn l) (Int.toNat k)) (3 : Nat) D.nilp)))
  (VC.need ((List.all [[D.int IntKind.i64 (asInt (List.getD (rowAt (rowsOn l) (Int.toNat k)) (0 : Nat) D.nilp)), D.int IntKind.i64 (asInt (List.getD (rowAt (rowsOn l) (Int.toNat k)) (1 : Nat) D.nilp)), D.int IntKind.i64 (asInt (List.getD (rowAt (rowsOn l) (Int.toNat k)) (2 : Nat) D.nilp)), D.int IntKind.i64 (IntKind.wrap IntKind.i64 (asInt (List.getD (rowAt (rowsOn l) (Int.toNat k)) (3 : Nat) D.nilp) - (1 : Int))), D.int IntKind.i64 (asInt (List.getD (rowAt (rowsOn l) (Int.toNat k)) (4 : Nat) D.nilp)), D.bool (asBool (List.getD (rowAt (rowsOn l) (Int.toNat k)) (5 : Nat) D.nilp)), D.bool (asBool (List.getD (rowAt (rowsOn l) (Int.toNat k)) (6 : Nat) D.nilp)), D.bool (asBool (List.getD (rowAt (rowsOn l) (Int.toNat k)) (7 : Nat) D.nilp))]] fun r ↦ List.length r == (8 : Nat)) = true ∧ (List.all R fun r ↦ List.length r == (8 : Nat)) = true ∧ (List.length R + List.length [[D.int IntKind.i64 (asInt (List.getD (rowAt (rowsOn l) (Int.toNat k)) (0 : Nat) D.nilp)), D.int IntKind.i64 (asInt (List.getD (rowAt (rowsOn l) (Int.toNat k)) (1 : Nat) D.nilp)), D.int IntKind.i64 (asInt (List.getD (rowAt (rowsOn l) (Int.toNat k)) (2 : Nat) D.nilp)), D.int IntKind.i64 (IntKind.wrap IntKind.i64 (asInt (List.getD (rowAt (rowsOn l) (Int.toNat k)) (3 : Nat) D.nilp) - (1 : Int))), D.int IntKind.i64 (asInt (List.getD (rowAt (rowsOn l) (Int.toNat k)) (4 : Nat) D.nilp)), D.bool (asBool (List.getD (rowAt (rowsOn l) (Int.toNat k)) (5 : Nat) D.nilp)), D.bool (asBool (List.getD (rowAt (rowsOn l) (Int.toNat k)) (6 : Nat) D.nilp)), D.bool (asBool (List.getD (rowAt (rowsOn l) (Int.toNat k)) (7 : Nat) D.nilp))]] + (100 : Nat)) * (49 : Nat) ≤ (70368744177664 : Nat))
  (FnA.at_ a_r9Pop 0 (F_pop l (List.length R + List.length [[D.int IntKind.i64 (asInt (List.getD (rowAt (rowsOn l) (Int.toNat k)) (0 : Nat) D.nilp)), D.int IntKind.i64 (asInt (List.getD (rowAt (rowsOn l) (Int.toNat k)) (1 : Nat) D.nilp)), D.int IntKind.i64 (asInt (List.getD (rowAt (rowsOn l) (Int.toNat k)) (2 : Nat) D.nilp)), D.int IntKind.i64 (IntKind.wrap IntKind.i64 (asInt (List.getD (rowAt (rowsOn l) (Int.toNat k)) (3 : Nat) D.nilp) - (1 : Int))), D.int IntKind.i64 (asInt (List.getD (rowAt (rowsOn l) (Int.toNat k)) (4 : Nat) D.nilp)), D.bool (asBool (List.getD (rowAt (rowsOn l) (Int.toNat k)) (5 : Nat) D.nilp)), D.bool (asBool (List.getD (rowAt (rowsOn l) (Int.toNat k)) (6 : Nat) D.nilp)), D.bool (asBool (List.getD (rowAt (rowsOn l) (Int.toNat k)) (7 : Nat) D.nilp))]]) (R ++ [[D.int IntKind.i64 (asInt (List.getD (rowAt (rowsOn l) (Int.toNat k)) (0 : Nat) D.nilp)), D.int IntKind.i64 (asInt (List.getD (rowAt (rowsOn l) (Int.toNat k)) (1 : Nat) D.nilp)), D.int IntKind.i64 (asInt (List.getD (rowAt (rowsOn l) (Int.toNat k)) (2 : Nat) D.nilp)), D.int IntKind.i64 (IntKind.wrap IntKind.i64 (asInt (List.getD (rowAt (rowsOn l) (Int.toNat k)) (3 : Nat) D.nilp) - (1 : Int))), D.int IntKind.i64 (asInt (List.getD (rowAt (rowsOn l) (Int.toNat k)) (4 : Nat) D.nilp)), D.bool (asBool (List.getD (rowAt (rowsOn l) (Int.toNat k)) (5 : Nat) D.nilp)), D.bool (asBool (List.getD (rowAt (rowsOn l) (Int.toNat k)) (6 : Nat) D.nilp)), D.bool (asBool (List.getD (rowAt (rowsOn l) (Int.toNat k)) (7 : Nat) D.nilp))]]) (IntKind.wrap IntKind.i64 (k + (1 : Int))))))
  (VC.need ((List.all [[D.int IntKind.i64 (asInt (List.getD (rowAt (rowsOn l) (Int.toNat k)) (0 : Nat) D.nilp)), D.int IntKind.i64 (asInt (List.getD (rowAt (rowsOn l) (Int.toNat k)) (1 : Nat) D.nilp)), D.int IntKind.i64 (asInt (List.getD (rowAt (rowsOn l) (Int.toNat k)) (2 : Nat) D.nilp)), D.int IntKind.i64 (asInt (List.getD (rowAt (rowsOn l) (Int.toNat k)) (3 : Nat) D.nilp)), D.int IntKind.i64 (asInt (List.getD (rowAt (rowsOn l) (Int.toNat k)) (4 : Nat) D.nilp)), D.bool (asBool (List.getD (rowAt (rowsOn l) (Int.toNat k)) (5 : Nat) D.nilp)), D.bool (asBool (List.getD (rowAt (rowsOn l) (Int.toNat k)) (6 : Nat) D.nilp)), D.bool (asBool (List.getD (rowAt (rowsOn l) (Int.toNat k)) (7 : Nat) D.nilp))]] fun r ↦ List.length r == (8 : Nat)) = true ∧ (List.all R fun r ↦ List.length r == (8 : Nat)) = true ∧ (List.length R + List.length [[D.int IntKind.i64 (asInt (List.getD (rowAt (rowsOn l) (Int.toNat k)) (0 : Nat) D.nilp)), D.int IntKind.i64 (asInt (List.getD (rowAt (rowsOn l) (Int.toNat k)) (1 : Nat) D.nilp)), D.int IntKind.i64 (asInt (List.getD (rowAt (rowsOn l) (Int.toNat k)) (2 : Nat) D.nilp)), D.int IntKind.i64 (asInt (List.getD (rowAt (rowsOn l) (Int.toNat k)) (3 : Nat) D.nilp)), D.int IntKind.i64 (asInt (List.getD (rowAt (rowsOn l) (Int.toNat k)) (4 : Nat) D.nilp)), D.bool (asBool (List.getD (rowAt (rowsOn l) (Int.toNat k)) (5 : Nat) D.nilp)), D.bool (asBool (List.getD (rowAt (rowsOn l) (Int.toNat k)) (6 : Nat) D.nilp)), D.bool (asBool (List.getD (rowAt (rowsOn l) (Int.toNat k)) (7 : Nat) D.nilp))]] + (100 : Nat)) * (49 : Nat) ≤ (70368744177664 : Nat))
  (FnA.at_ a_r9Pop 0 (F_pop l (List.length R + List.length [[D.int IntKind.i64 (asInt (List.getD (rowAt (rowsOn l) (Int.toNat k)) (0 : Nat) D.nilp)), D.int IntKind.i64 (asInt (List.getD (rowAt (rowsOn l) (Int.toNat k)) (1 : Nat) D.nilp)), D.int IntKind.i64 (asInt (List.getD (rowAt (rowsOn l) (Int.toNat k)) (2 : Nat) D.nilp)), D.int IntKind.i64 (asInt (List.getD (rowAt (rowsOn l) (Int.toNat k)) (3 : Nat) D.nilp)), D.int IntKind.i64 (asInt (List.getD (rowAt (rowsOn l) (Int.toNat k)) (4 : Nat) D.nilp)), D.bool (asBool (List.getD (rowAt (rowsOn l) (Int.toNat k)) (5 : Nat) D.nilp)), D.bool (asBool (List.getD (rowAt (rowsOn l) (Int.toNat k)) (6 : Nat) D.nilp)), D.bool (asBool (List.getD (rowAt (rowsOn l) (Int.toNat k)) (7 : Nat) D.nilp))]]) (R ++ [[D.int IntKind.i64 (asInt (List.getD (rowAt (rowsOn l) (Int.toNat k)) (0 : Nat) D.nilp)), D.int IntKind.i64 (asInt (List.getD (rowAt (rowsOn l) (Int.toNat k)) (1 : Nat) D.nilp)), D.int IntKind.i64 (asInt (List.getD (rowAt (rowsOn l) (Int.toNat k)) (2 : Nat) D.nilp)), D.int IntKind.i64 (asInt (List.getD (rowAt (rowsOn l) (Int.toNat k)) (3 : Nat) D.nilp)), D.int IntKind.i64 (asInt (List.getD (rowAt (rowsOn l) (Int.toNat k)) (4 : Nat) D.nilp)), D.bool (asBool (List.getD (rowAt (rowsOn l) (Int.toNat k)) (5 : Nat) D.nilp)), D.bool (asBool (List.getD (rowAt (rowsOn l) (Int.toNat k)) (6 : Nat) D.nilp)), D.bool (asBool (List.getD (rowAt (rowsOn l) (Int.toNat k)) (7 : Nat) D.nilp))]]) (IntKind.wrap IntKind.i64 (k + (1 : Int)))))))))
 (VC.ret (some (RR.c (Rc.new (8 : Nat) R))))) := by kernel_rfl
theorem pop_step (l : List Ent) {k : Int} (h0 : 1 ≤ k) (h1 : k < l.length) : popS (l.take (k + 1).toNat) = popS (l.take k.toNat) ++ [popE (rd l k)] := by
  unfold popS
  rw [take_rd l k (by omega) h1, List.drop_append_of_le_length (by rw [List.length_take]; omega), List.map_append]
  rfl
theorem popS_len (l : List Ent) : (popS l).length = l.length - 1 := by simp [popS]
theorem l_pop0 (l : List Ent) (hl : l.length ≤ 1000000) : ∀ i_ : Int × Nat × List (List D), (fun (v : Int × Nat × List (List D)) => 1 ≤ v.1 ∧ (v.1 ≤ l.length ∨ v.1 = 1) ∧ OnL v.2.2 v.2.1 (popS (l.take v.1.toNat))) i_ → (a_r9Pop.at_ 0 ((fun (v : Int × Nat × List (List D)) => F_pop l v.2.1 v.2.2 v.1) i_)).holds s_r9Pop.cx a_r9Pop.rs (fun r => r.data.le (rE (popS l))) := by
  refine loop_rule (a := a_r9Pop) (j := 0) (m := 400) s_r9Pop_sound (fun (v : Int × Nat × List (List D)) => F_pop l v.2.1 v.2.2 v.1) (fun (v : Int × Nat × List (List D)) => 1 ≤ v.1 ∧ (v.1 ≤ l.length ∨ v.1 = 1) ∧ OnL v.2.2 v.2.1 (popS (l.take v.1.toNat))) (fun (v : Int × Nat × List (List D)) => ((l.length : Int) - v.1).toNat) ?_
  rintro ⟨k, n, R⟩ h_inv ih
  try dsimp only at h_inv
  replace ih := fun (v0 : Int) (v1 : Nat) (v2 : List (List D)) => ih (v0, v1, v2)
  try dsimp only at ih
  show VC.holds _ _ _ (a_r9Pop.round s_r9Pop 400 0 (F_pop l n R k))
  rw [t_pop0]
  try simp only [asRows_sl, asInt_int, asBool_bool, asStr_str, listOf_rowsOn, List.drop_zero, Prg.eta, Sta.eta, rowsOn_length, getD_drop, Nat.reduceAdd, rd_int, rd_PMem_name, rd_PMem_secret, rd_PMem_n, rd_PLabel_name, rd_PLabel_at_, rd_Ins_kind, rd_Ins_op, rd_Ins_d, rd_Ins_aR, rd_Ins_aN, rd_Ins_bR, rd_Ins_bN, rd_Ins_name, rd_Ins_target, rd_Ent_pc, rd_Ent_val, rd_Ent_addr, rd_Ent_fro, rd_Ent_next, rd_Ent_done, rd_Ent_known, rd_Ent_fault, rd_Place_reg, rd_Place_n, rd_Place_secret, rd_Obs_kind, rd_Obs_at_, rd_Dir_kind, rd_Dir_n, Prg.of_cells, Sta.of_cells]
  obtain ⟨k0, k1, h1⟩ := h_inv
  have w1 : IntKind.wrap .i64 (k + 1) = k + 1 := wrap_small _ (by omega) (by omega)
  simp only [w1]
  have hb := h1.2
  have hlen : (popS (l.take k.toNat)).length ≤ 1000000 := by rw [popS_len, List.length_take]; omega
  refine br_dec (fun hk => ?_) (fun hk => ret_leD ?_)
  · have g := ent_ok l k (by omega) hk
    have hst := pop_step l k0 hk
    refine ⟨g, okSh_ok _ l k (fun _ => rfl) (by omega) hk, br_dec (fun hf => ?_) (fun hf => ?_)⟩
    · have e : popE (rd l k) = { rd l k with fro := IntKind.wrap .i64 ((rd l k).fro - 1) } := if_pos hf
      refine ⟨app_ok h1 rfl rfl (by simp only [List.length_cons, List.length_nil]; omega), ih _ _ _ ⟨by omega, by omega, ?_⟩ (by omega)⟩
      rw [hst, e]
      exact h1.snoc { rd l k with fro := IntKind.wrap .i64 ((rd l k).fro - 1) }
    · have e : popE (rd l k) = rd l k := if_neg hf
      refine ⟨app_ok h1 rfl rfl (by simp only [List.length_cons, List.length_nil]; omega), ih _ _ _ ⟨by omega, by omega, ?_⟩ (by omega)⟩
      rw [hst, e]
      exact h1.snoc (rd l k)
  · have e : popS (l.take k.toNat) = popS l := by rw [List.take_of_length_le (by omega)]
    rw [h1.1, e]
    exact RR.le_refl _
theorem c_r9Pop_good : c_r9Pop.fe.Good Try.prog := by
  refine FT.good c_r9Pop ⟨Try.f108, by kernel_rfl, by decide +kernel, by kernel_rfl⟩ (fun ⟨l, u⟩ => by first | rfl | simp [c_r9Pop, rrRef, riiibb, rreal, riib, rE, rrun, rstep, rins, rnum, rby, rss, rnewI, rnewE, rstab, rplaces, ri, rb, rib, Sta.fresh]) fun ⟨l, u⟩ hp => ?_
  refine acalls_leD s_r9Pop_sound (fn := Try.f108) (a := a_r9Pop) (nargs := 1) (tbl := [(3, [0, 3, 4, 1000003000000900001008])]) (by kernel_rfl) (by kernel_rfl) rfl (m := 400) ?_
  show VC.holds _ _ _ (a_r9Pop.start s_r9Pop 400 [aE l])
  rw [t_r9Pop]
  try simp only [asRows_sl, asInt_int, asBool_bool, asStr_str, listOf_rowsOn, List.drop_zero, Prg.eta, Sta.eta, rowsOn_length, getD_drop, Nat.reduceAdd, rd_int, rd_PMem_name, rd_PMem_secret, rd_PMem_n, rd_PLabel_name, rd_PLabel_at_, rd_Ins_kind, rd_Ins_op, rd_Ins_d, rd_Ins_aR, rd_Ins_aN, rd_Ins_bR, rd_Ins_bN, rd_Ins_name, rd_Ins_target, rd_Ent_pc, rd_Ent_val, rd_Ent_addr, rd_Ent_fro, rd_Ent_next, rd_Ent_done, rd_Ent_known, rd_Ent_fault, rd_Place_reg, rd_Place_n, rd_Place_secret, rd_Obs_kind, rd_Obs_at_, rd_Dir_kind, rd_Dir_n, Prg.of_cells, Sta.of_cells]
  try simp only [c_r9Pop] at hp
  have hl : l.length ≤ 1000000 := hp
  refine l_pop0 l hl (1, _, _) ⟨by decide, .inr rfl, ?_⟩
  have e : popS (l.take (1 : Int).toNat) = [] := by
    have := popS_len (l.take (1 : Int).toNat)
    exact List.length_eq_zero_iff.1 (by rw [this, List.length_take]; have : (1 : Int).toNat = 1 := rfl; omega)
  dsimp only
  rw [e]
  exact OnL.nil
noncomputable def v_r9Pop : List Ent × Unit → List Ent := fun x => popS x.1
noncomputable def sh_r9Pop : List Ent → RR := fun l => rE l
theorem e_r9Pop (x : List Ent × Unit) : sh_r9Pop (v_r9Pop x) = c_r9Pop.ans x := rfl
/-- What holds wherever a machine comes to. -/
def EntOk (p : Prg) (m : Int) (s : List Int) (l : List Ent) (k : Nat) : Prop :=
  ((atS p.ins (rd l (k : Int)).pc).kind = 3 → (rd l (k : Int)).known = true → (rd l (k : Int)).fault = false → 0 ≤ (rd l (k : Int)).addr ∧ (rd l (k : Int)).addr < m) ∧
  ((atS p.ins (rd l (k : Int)).pc).kind = 9 → (rd l (k : Int)).done = true → (rd l (k : Int)).fault = false → ∃ out, realK p l k s = some out ∧ out ≠ [])
def Mach (n : Int) (p : Prg) (c : Conf) : Prop :=
  ((c.buf.length : Int) ≤ n ∧ (c.rsb.length : Int) ≤ n ∧ (c.st.stack.length : Int) ≤ n ∧ c.st.mem.length ≤ 1000000) ∧ ∀ k : Nat, k < c.buf.length → EntOk p c.st.mem.length c.st.stack c.buf k
def rConfB (x : Conf × Bool) : RR := .tup [.inr (x.1.cells.map .d), .inl (.d (.bool x.2))]
noncomputable def a_r9Fe : FnA := (fnA Try.prog Try.f82 3 []).getD ⟨0, .skip, [], []⟩
noncomputable def s_r9Fe : Sp := spT [c_r9Gu.gfe v_r9Gu sh_r9Gu e_r9Gu, c_rAt.gfe v_rAt sh_rAt e_rAt, c_r9Real.gfe v_r9Real sh_r9Real e_r9Real, c_r9Push.gfe v_r9Push sh_r9Push e_r9Push]
theorem s_r9Fe_sound : s_r9Fe.sound Try.prog := spT_sound fun e he => by
  simp only [List.mem_cons, List.not_mem_nil, or_false] at he
  rcases he with rfl | rfl | rfl | rfl
  · exact FT.gfe_good c_r9Gu_good
  · exact FT.gfe_good c_rAt_good
  · exact FT.gfe_good c_r9Real_good
  · exact FT.gfe_good c_r9Push_good
set_option maxRecDepth 100000 in
theorem t_r9Fe (p : Prg) (c : Conf) (g : Int) : a_r9Fe.start s_r9Fe 400 [ap p, aC c, ai g] =
(VC.br (decide (g < (0 : Int)))
 (VC.ret (some (RR.tup [Sum.inr [Rc.d (D.int IntKind.i64 (0 : Int)), Rc.d (D.int IntKind.i64 (0 : Int)), Rc.d (D.int IntKind.i64 (0 : Int)), Rc.d (D.int IntKind.i64 (0 : Int)), Rc.nil, Rc.nil, Rc.d (D.int IntKind.i64 (0 : Int)), Rc.nil, Rc.nil, Rc.d (D.int IntKind.i64 (0 : Int))], Sum.inl (Rc.d (D.bool false))])))
 (VC.need (PreOk c_r9Gu (Prg.of (Prg.cells p), Conf.of [D.int IntKind.i64 c.st.r0, D.int IntKind.i64 c.st.r1, D.int IntKind.i64 c.st.r2, D.int IntKind.i64 c.st.r3, D.sl (rowsOn c.st.mem), D.sl (rowsOn c.st.stack), D.int IntKind.i64 c.st.pc, D.sl (rowsOn c.buf), D.sl (rowsOn c.rsb), D.int IntKind.i64 c.fin]) [A.agg (Prg.cells p), A.agg [D.int IntKind.i64 c.st.r0, D.int IntKind.i64 c.st.r1, D.int IntKind.i64 c.st.r2, D.int IntKind.i64 c.st.r3, D.sl (rowsOn c.st.mem), D.sl (rowsOn c.st.stack), D.int IntKind.i64 c.st.pc, D.sl (rowsOn c.buf), D.sl (rowsOn c.rsb), D.int IntKind.i64 c.fin]])
 (VC.all (v_r9Gu (Prg.of (Prg.cells p), Conf.of [D.int IntKind.i64 c.st.r0, D.int IntKind.i64 c.st.r1, D.int IntKind.i64 c.st.r2, D.int IntKind.i64 c.st.r3, D.sl (rowsOn c.st.mem), D.sl (rowsOn c.st.stack), D.int IntKind.i64 c.st.pc, D.sl (rowsOn c.buf), D.sl (rowsOn c.rsb), D.int IntKind.i64 c.fin])) fun (y3 : Int) =>
 (VC.br (decide (y3 ≤ g))
  (VC.ret (some (RR.tup [Sum.inr [Rc.d (D.int IntKind.i64 (0 : Int)), Rc.d (D.int IntKind.i64 (0 : Int)), Rc.d (D.int IntKind.i64 (0 : Int)), Rc.d (D.int IntKind.i64 (0 : Int)), Rc.nil, Rc.nil, Rc.d (D.int IntKind.i64 (0 : Int)), Rc.nil, Rc.nil, Rc.d (D.int IntKind.i64 (0 : Int))], Sum.inl (Rc.d (D.bool false))])))
  (VC.need (PreOk c_rAt (Prg.of (Prg.cells p), c.st.pc) [A.agg (Prg.cells p), A.c (D.int IntKind.i64 c.st.pc)])
  (VC.all (v_rAt (Prg.of (Prg.cells p), c.st.pc)) fun (y4 : Ins) =>
  (VC.br (y4.kind == (5 : Int))
   (VC.br (g == (1 : Int))
    (VC.need ((List.all (rowsOn c.buf) fun r ↦ List.length r == (8 : Nat)) = true ∧ (List.all ([] : List (List D)) fun r ↦ List.length r == (8 : Nat)) = true ∧ ((0 : Nat) + List.length (rowsOn c.buf) + (100 : Nat)) * (49 : Nat) ≤ (70368744177664 : Nat))
    (VC.need ((List.all [[D.int IntKind.i64 c.st.pc, D.int IntKind.i64 (0 : Int), D.int IntKind.i64 (0 : Int), D.int IntKind.i64 (-1 : Int), D.int IntKind.i64 y4.target, D.bool false, D.bool false, D.bool false]] fun r ↦ List.length r == (8 : Nat)) = true ∧ (List.all ([] ++ rowsOn c.buf) fun r ↦ List.length r == (8 : Nat)) = true ∧ (List.length ([] ++ rowsOn c.buf) + List.length [[D.int IntKind.i64 c.st.pc, D.int IntKind.i64 (0 : Int), D.int IntKind.i64 (0 : Int), D.int IntKind.i64 (-1 : Int), D.int IntKind.i64 y4.target, D.bool false, D.bool false, D.bool false]] + (100 : Nat)) * (49 : Nat) ≤ (70368744177664 : Nat))
    (VC.ret (some (RR.tup [Sum.inr [Rc.d (D.int IntKind.i64 c.st.r0), Rc.d (D.int IntKind.i64 c.st.r1), Rc.d (D.int IntKind.i64 c.st.r2), Rc.d (D.int IntKind.i64 c.st.r3), Rc.d (D.sl (rowsOn c.st.mem)), Rc.d (D.sl (rowsOn c.st.stack)), Rc.d (D.int IntKind.i64 y4.target), Rc.new (8 : Nat) ([] ++ rowsOn c.buf ++ [[D.int IntKind.i64 c.st.pc, D.int IntKind.i64 (0 : Int), D.int IntKind.i64 (0 : Int), D.int IntKind.i64 (-1 : Int), D.int IntKind.i64 y4.target, D.bool false, D.bool false, D.bool false]]), Rc.d (D.sl (rowsOn c.rsb)), Rc.d (D.int IntKind.i64 c.fin)], Sum.inl (Rc.d (D.bool true))])))))
    (VC.need ((List.all (rowsOn c.buf) fun r ↦ List.length r == (8 : Nat)) = true ∧ (List.all ([] : List (List D)) fun r ↦ List.length r == (8 : Nat)) = true ∧ ((0 : Nat) + List.length (rowsOn c.buf) + (100 : Nat)) * (49 : Nat) ≤ (70368744177664 : Nat))
    (VC.need ((List.all [[D.int IntKind.i64 c.st.pc, D.int IntKind.i64 (0 : Int), D.int IntKind.i64 (0 : Int), D.int IntKind.i64 (-1 : Int), D.int IntKind.i64 (IntKind.wrap IntKind.i64 (c.st.pc + (1 : Int))), D.bool false, D.bool false, D.bool false]] fun r ↦ List.length r == (8 : Nat)) = true ∧ (List.all ([] ++ rowsOn c.buf) fun r ↦ List.length r == (8 : Nat)) = true ∧ (List.length ([] ++ rowsOn c.buf) + List.length [[D.int IntKind.i64 c.st.pc, D.int IntKind.i64 (0 : Int), D.int IntKind.i64 (0 : Int), D.int IntKind.i64 (-1 : Int), D.int IntKind.i64 (IntKind.wrap IntKind.i64 (c.st.pc + (1 : Int))), D.bool false, D.bool false, D.bool false]] + (100 : Nat)) * (49 : Nat) ≤ (70368744177664 : Nat))
    (VC.ret (some (RR.tup [Sum.inr [Rc.d (D.int IntKind.i64 c.st.r0), Rc.d (D.int IntKind.i64 c.st.r1), Rc.d (D.int IntKind.i64 c.st.r2), Rc.d (D.int IntKind.i64 c.st.r3), Rc.d (D.sl (rowsOn c.st.mem)), Rc.d (D.sl (rowsOn c.st.stack)), Rc.d (D.int IntKind.i64 (IntKind.wrap IntKind.i64 (c.st.pc + (1 : Int)))), Rc.new (8 : Nat) ([] ++ rowsOn c.buf ++ [[D.int IntKind.i64 c.st.pc, D.int IntKind.i64 (0 : Int), D.int IntKind.i64 (0 : Int), D.int IntKind.i64 (-1 : Int), D.int IntKind.i64 (IntKind.wrap IntKind.i64 (c.st.pc + (1 : Int))), D.bool false, D.bool false, D.bool false]]), Rc.d (D.sl (rowsOn c.rsb)), Rc.d (D.int IntKind.i64 c.fin)], Sum.inl (Rc.d (D.bool true))]))))))
   (VC.br (y4.kind == (6 : Int))
    (VC.need ((List.all (rowsOn c.buf) fun r ↦ List.length r == (8 : Nat)) = true ∧ (List.all ([] : List (List D)) fun r ↦ List.length r == (8 : Nat)) = true ∧ ((0 : Nat) + List.length (rowsOn c.buf) + (100 : Nat)) * (49 : Nat) ≤ (70368744177664 : Nat))
    (VC.need ((List.all [[D.int IntKind.i64 c.st.pc, D.int IntKind.i64 (0 : Int), D.int IntKind.i64 (0 : Int), D.int IntKind.i64 (-1 : Int), D.int IntKind.i64 y4.target, D.bool true, D.bool false, D.bool false]] fun r ↦ List.length r == (8 : Nat)) = true ∧ (List.all ([] ++ rowsOn c.buf) fun r ↦ List.length r == (8 : Nat)) = true ∧ (List.length ([] ++ rowsOn c.buf) + List.length [[D.int IntKind.i64 c.st.pc, D.int IntKind.i64 (0 : Int), D.int IntKind.i64 (0 : Int), D.int IntKind.i64 (-1 : Int), D.int IntKind.i64 y4.target, D.bool true, D.bool false, D.bool false]] + (100 : Nat)) * (49 : Nat) ≤ (70368744177664 : Nat))
    (VC.ret (some (RR.tup [Sum.inr [Rc.d (D.int IntKind.i64 c.st.r0), Rc.d (D.int IntKind.i64 c.st.r1), Rc.d (D.int IntKind.i64 c.st.r2), Rc.d (D.int IntKind.i64 c.st.r3), Rc.d (D.sl (rowsOn c.st.mem)), Rc.d (D.sl (rowsOn c.st.stack)), Rc.d (D.int IntKind.i64 y4.target), Rc.new (8 : Nat) ([] ++ rowsOn c.buf ++ [[D.int IntKind.i64 c.st.pc, D.int IntKind.i64 (0 : Int), D.int IntKind.i64 (0 : Int), D.int IntKind.i64 (-1 : Int), D.int IntKind.i64 y4.target, D.bool true, D.bool false, D.bool false]]), Rc.d (D.sl (rowsOn c.rsb)), Rc.d (D.int IntKind.i64 c.fin)], Sum.inl (Rc.d (D.bool true))])))))
    (VC.br (y4.kind == (7 : Int))
     (VC.need ((List.all (rowsOn c.buf) fun r ↦ List.length r == (8 : Nat)) = true ∧ (List.all ([] : List (List D)) fun r ↦ List.length r == (8 : Nat)) = true ∧ ((0 : Nat) + List.length (rowsOn c.buf) + (100 : Nat)) * (49 : Nat) ≤ (70368744177664 : Nat))
     (VC.need ((List.all [[D.int IntKind.i64 c.st.pc, D.int IntKind.i64 (0 : Int), D.int IntKind.i64 (0 : Int), D.int IntKind.i64 (-1 : Int), D.int IntKind.i64 g, D.bool false, D.bool false, D.bool false]] fun r ↦ List.length r == (8 : Nat)) = true ∧ (List.all ([] ++ rowsOn c.buf) fun r ↦ List.length r == (8 : Nat)) = true ∧ (List.length ([] ++ rowsOn c.buf) + List.length [[D.int IntKind.i64 c.st.pc, D.int IntKind.i64 (0 : Int), D.int IntKind.i64 (0 : Int), D.int IntKind.i64 (-1 : Int), D.int IntKind.i64 g, D.bool false, D.bool false, D.bool false]] + (100 : Nat)) * (49 : Nat) ≤ (70368744177664 : Nat))
     (VC.ret (some (RR.tup [Sum.inr [Rc.d (D.int IntKind.i64 c.st.r0), Rc.d (D.int IntKind.i64 c.st.r1), Rc.d (D.int IntKind.i64 c.st.r2), Rc.d (D.int IntKind.i64 c.st.r3), Rc.d (D.sl (rowsOn c.st.mem)), Rc.d (D.sl (rowsOn c.st.stack)), Rc.d (D.int IntKind.i64 g), Rc.new (8 : Nat) ([] ++ rowsOn c.buf ++ [[D.int IntKind.i64 c.st.pc, D.int IntKind.i64 (0 : Int), D.int IntKind.i64 (0 : Int), D.int IntKind.i64 (-1 : Int), D.int IntKind.i64 g, D.bool false, D.bool false, D.bool false]]), Rc.d (D.sl (rowsOn c.rsb)), Rc.d (D.int IntKind.i64 c.fin)], Sum.inl (Rc.d (D.bool true))])))))
     (VC.br (y4.kind == (9 : Int))
      (VC.br (decide ((0 : Int) < (↑(List.length (rowsOn c.rsb)) : Int)))
       (VC.need ((0 : Int) ≤ IntKind.wrap IntKind.i64 ((↑(List.length (rowsOn c.rsb)) : Int) - (1 : Int)) ∧ IntKind.wrap IntKind.i64 ((↑(List.length (rowsOn c.rsb)) : Int) - (1 : Int)) < (↑(List.length (rowsOn c.rsb)) : Int) ∧ List.length (rowAt (rowsOn c.rsb) (Int.toNat (IntKind.wrap IntKind.i64 ((↑(List.length (rowsOn c.rsb)) : Int) - (1 : Int))))) = (1 : Nat))
       (VC.need (okSh [Kd.int IntKind.i64] (rowAt (rowsOn c.rsb) (Int.toNat (IntKind.wrap IntKind.i64 ((↑(List.length (rowsOn c.rsb)) : Int) - (1 : Int))))))
       (VC.need ((List.all (rowsOn c.rsb) fun r ↦ List.length r == (1 : Nat)) = true ∧ (0 : Int) ≤ (0 : Int) ∧ (0 : Int) ≤ IntKind.wrap IntKind.i64 ((↑(List.length (rowsOn c.rsb)) : Int) - (1 : Int)) ∧ IntKind.wrap IntKind.i64 ((↑(List.length (rowsOn c.rsb)) : Int) - (1 : Int)) ≤ (↑(List.length (rowsOn c.rsb)) : Int))
       (VC.need ((List.all (List.drop (0 : Nat) (List.take (Int.toNat (IntKind.wrap IntKind.i64 ((↑(List.length (rowsOn c.rsb)) : Int) - (1 : Int)))) (rowsOn c.rsb))) fun r ↦ List.length r == (1 : Nat)) = true ∧ (List.all ([] : List (List D)) fun r ↦ List.length r == (1 : Nat)) = true ∧ ((0 : Nat) + List.length (List.drop (0 : Nat) (List.take (Int.toNat (IntKind.wrap IntKind.i64 ((↑(List.length (rowsOn c.rsb)) : Int) - (1 : Int)))) (rowsOn c.rsb))) + (100 : Nat)) * (9 : Nat) ≤ (70368744177664 : Nat))
       (VC.need ((List.all (rowsOn c.buf) fun r ↦ List.length r == (8 : Nat)) = true ∧ (List.all ([] : List (List D)) fun r ↦ List.length r == (8 : Nat)) = true ∧ ((0 : Nat) + List.length (rowsOn c.buf) + (100 : Nat)) * (49 : Nat) ≤ (70368744177664 : Nat))
       (VC.need ((List.all [[D.int IntKind.i64 c.st.pc, D.int IntKind.i64 (0 : Int), D.int IntKind.i64 (0 : Int), D.int IntKind.i64 (-1 : Int), D.int IntKind.i64 (asInt (List.getD (rowAt (rowsOn c.rsb) (Int.toNat (IntKind.wrap IntKind.i64 ((↑(List.length (rowsOn c.rsb)) : Int) - (1 : Int))))) (0 : Nat) D.nilp)), D.bool false, D.bool false, D.bool false]] fun r ↦ List.length r == (8 : Nat)) = true ∧ (List.all ([] ++ rowsOn c.buf) fun r ↦ List.length r == (8 : Nat)) = true ∧ (List.length ([] ++ rowsOn c.buf) + List.length [[D.int IntKind.i64 c.st.pc, D.int IntKind.i64 (0 : Int), D.int IntKind.i64 (0 : Int), D.int IntKind.i64 (-1 : Int), D.int IntKind.i64 (asInt (List.getD (rowAt (rowsOn c.rsb) (Int.toNat (IntKind.wrap IntKind.i64 ((↑(List.length (rowsOn c.rsb)) : Int) - (1 : Int))))) (0 : Nat) D.nilp)), D.bool false, D.bool false, D.bool false]] + (100 : Nat)) * (49 : Nat) ≤ (70368744177664 : Nat))
       (VC.ret (some (RR.tup [Sum.inr [Rc.d (D.int IntKind.i64 c.st.r0), Rc.d (D.int IntKind.i64 c.st.r1), Rc.d (D.int IntKind.i64 c.st.r2), Rc.d (D.int IntKind.i64 c.st.r3), Rc.d (D.sl (rowsOn c.st.mem)), Rc.d (D.sl (rowsOn c.st.stack)), Rc.d (D.int IntKind.i64 (asInt (List.getD (rowAt (rowsOn c.rsb) (Int.toNat (IntKind.wrap IntKind.i64 ((↑(List.length (rowsOn c.rsb)) : Int) - (1 : Int))))) (0 : Nat) D.nilp))), Rc.new (8 : Nat) ([] ++ rowsOn c.buf ++ [[D.int IntKind.i64 c.st.pc, D.int IntKind.i64 (0 : Int), D.int IntKind.i64 (0 : Int), D.int IntKind.i64 (-1 : Int), D.int IntKind.i64 (asInt (List.getD (rowAt (rowsOn c.rsb) (Int.toNat (IntKind.wrap IntKind.i64 ((↑(List.length (rowsOn c.rsb)) : Int) - (1 : Int))))) (0 : Nat) D.nilp)), D.bool false, D.bool false, D.bool false]]), Rc.new (1 : Nat) ([] ++ List.drop (0 : Nat) (List.take (Int.toNat (IntKind.wrap IntKind.i64 ((↑(List.length (rowsOn c.rsb)) : Int) - (1 : Int)))) (rowsOn c.rsb))), Rc.d (D.int IntKind.i64 c.fin)], Sum.inl (Rc.d (D.bool true))])))))))))
       (VC.need ((List.all (rowsOn c.buf) fun r ↦ List.length r == (8 : Nat)) = true ∧ (List.all ([] : List (List D)) fun r ↦ List.length r == (8 : Nat)) = true ∧ ((0 : Nat) + List.length (rowsOn c.buf) + (100 : Nat)) * (49 : Nat) ≤ (70368744177664 : Nat))
       (VC.need ((List.all [[D.int IntKind.i64 c.st.pc, D.int IntKind.i64 (0 : Int), D.int IntKind.i64 (0 : Int), D.int IntKind.i64 (-1 : Int), D.int IntKind.i64 g, D.bool false, D.bool false, D.bool false]] fun r ↦ List.length r == (8 : Nat)) = true ∧ (List.all ([] ++ rowsOn c.buf) fun r ↦ List.length r == (8 : Nat)) = true ∧ (List.length ([] ++ rowsOn c.buf) + List.length [[D.int IntKind.i64 c.st.pc, D.int IntKind.i64 (0 : Int), D.int IntKind.i64 (0 : Int), D.int IntKind.i64 (-1 : Int), D.int IntKind.i64 g, D.bool false, D.bool false, D.bool false]] + (100 : Nat)) * (49 : Nat) ≤ (70368744177664 : Nat))
       (VC.ret (some (RR.tup [Sum.inr [Rc.d (D.int IntKind.i64 c.st.r0), Rc.d (D.int IntKind.i64 c.st.r1), Rc.d (D.int IntKind.i64 c.st.r2), Rc.d (D.int IntKind.i64 c.st.r3), Rc.d (D.sl (rowsOn c.st.mem)), Rc.d (D.sl (rowsOn c.st.stack)), Rc.d (D.int IntKind.i64 g), Rc.new (8 : Nat) ([] ++ rowsOn c.buf ++ [[D.int IntKind.i64 c.st.pc, D.int IntKind.i64 (0 : Int), D.int IntKind.i64 (0 : Int), D.int IntKind.i64 (-1 : Int), D.int IntKind.i64 g, D.bool false, D.bool false, D.bool false]]), Rc.d (D.sl (rowsOn c.rsb)), Rc.d (D.int IntKind.i64 c.fin)], Sum.inl (Rc.d (D.bool true))]))))))
      (VC.br (y4.kind == (8 : Int))
       (VC.need (PreOk c_r9Real (Prg.of (Prg.cells p), c.st.stack, c.buf, (↑(List.length (rowsOn c.buf)) : Int)) [A.agg (Prg.cells p), A.c (D.sl (rowsOn c.st.stack)), A.c (D.sl (rowsOn c.buf)), A.c (D.int IntKind.i64 (↑(List.length (rowsOn c.buf)) : Int))])
       (VC.all (v_r9Real (Prg.of (Prg.cells p), listOf Int (rowsOn c.st.stack), listOf Ent (rowsOn c.buf), (↑(List.length (rowsOn c.buf)) : Int))) fun (y5 : Option (List Int)) =>
       (VC.br (!Option.isSome y5)
        (VC.need (PreOk c_r9Push (c.rsb, IntKind.wrap IntKind.i64 (c.st.pc + (1 : Int))) [A.c (D.sl (rowsOn c.rsb)), A.c (D.int IntKind.i64 (IntKind.wrap IntKind.i64 (c.st.pc + (1 : Int))))])
        (VC.all (v_r9Push (listOf Int (rowsOn c.rsb), IntKind.wrap IntKind.i64 (c.st.pc + (1 : Int)))) fun (y6 : List Int) =>
        (VC.need ((List.all (rowsOn c.buf) fun r ↦ List.length r == (8 : Nat)) = true ∧ (List.all ([] : List (List D)) fun r ↦ List.length r == (8 : Nat)) = true ∧ ((0 : Nat) + List.length (rowsOn c.buf) + (100 : Nat)) * (49 : Nat) ≤ (70368744177664 : Nat))
        (VC.need ((List.all [[D.int IntKind.i64 c.st.pc, D.int IntKind.i64 (0 : Int), D.int IntKind.i64 (0 : Int), D.int IntKind.i64 (-1 : Int), D.int IntKind.i64 y4.target, D.bool true, D.bool false, D.bool true]] fun r ↦ List.length r == (8 : Nat)) = true ∧ (List.all ([] ++ rowsOn c.buf) fun r ↦ List.length r == (8 : Nat)) = true ∧ (List.length ([] ++ rowsOn c.buf) + List.length [[D.int IntKind.i64 c.st.pc, D.int IntKind.i64 (0 : Int), D.int IntKind.i64 (0 : Int), D.int IntKind.i64 (-1 : Int), D.int IntKind.i64 y4.target, D.bool true, D.bool false, D.bool true]] + (100 : Nat)) * (49 : Nat) ≤ (70368744177664 : Nat))
        (VC.ret (some (RR.tup [Sum.inr [Rc.d (D.int IntKind.i64 c.st.r0), Rc.d (D.int IntKind.i64 c.st.r1), Rc.d (D.int IntKind.i64 c.st.r2), Rc.d (D.int IntKind.i64 c.st.r3), Rc.d (D.sl (rowsOn c.st.mem)), Rc.d (D.sl (rowsOn c.st.stack)), Rc.d (D.int IntKind.i64 y4.target), Rc.new (8 : Nat) ([] ++ rowsOn c.buf ++ [[D.int IntKind.i64 c.st.pc, D.int IntKind.i64 (0 : Int), D.int IntKind.i64 (0 : Int), D.int IntKind.i64 (-1 : Int), D.int IntKind.i64 y4.target, D.bool true, D.bool false, D.bool true]]), Rc.d (D.sl (rowsOn y6)), Rc.d (D.int IntKind.i64 c.fin)], Sum.inl (Rc.d (D.bool true))])))))))
        (VC.need (PreOk c_r9Push (c.rsb, IntKind.wrap IntKind.i64 (c.st.pc + (1 : Int))) [A.c (D.sl (rowsOn c.rsb)), A.c (D.int IntKind.i64 (IntKind.wrap IntKind.i64 (c.st.pc + (1 : Int))))])
        (VC.all (v_r9Push (listOf Int (rowsOn c.rsb), IntKind.wrap IntKind.i64 (c.st.pc + (1 : Int)))) fun (y6 : List Int) =>
        (VC.need ((List.all (rowsOn c.buf) fun r ↦ List.length r == (8 : Nat)) = true ∧ (List.all ([] : List (List D)) fun r ↦ List.length r == (8 : Nat)) = true ∧ ((0 : Nat) + List.length (rowsOn c.buf) + (100 : Nat)) * (49 : Nat) ≤ (70368744177664 : Nat))
        (VC.need ((List.all [[D.int IntKind.i64 c.st.pc, D.int IntKind.i64 (0 : Int), D.int IntKind.i64 (0 : Int), D.int IntKind.i64 (-1 : Int), D.int IntKind.i64 y4.target, D.bool true, D.bool false, D.bool (decide ((4 : Int) ≤ (↑(List.length (rowsOn (Option.getD y5 []))) : Int)))]] fun r ↦ List.length r == (8 : Nat)) = true ∧ (List.all ([] ++ rowsOn c.buf) fun r ↦ List.length r == (8 : Nat)) = true ∧ (List.length ([] ++ rowsOn c.buf) + List.length [[D.int IntKind.i64 c.st.pc, D.int IntKind.i64 (0 : Int), D.int IntKind.i64 (0 : Int), D.int IntKind.i64 (-1 : Int), D.int IntKind.i64 y4.target, D.bool true, D.bool false, D.bool (decide ((4 : Int) ≤ (↑(List.length (rowsOn (Option.getD y5 []))) : Int)))]] + (100 : Nat)) * (49 : Nat) ≤ (70368744177664 : Nat))
        (VC.ret (some (RR.tup [Sum.inr [Rc.d (D.int IntKind.i64 c.st.r0), Rc.d (D.int IntKind.i64 c.st.r1), Rc.d (D.int IntKind.i64 c.st.r2), Rc.d (D.int IntKind.i64 c.st.r3), Rc.d (D.sl (rowsOn c.st.mem)), Rc.d (D.sl (rowsOn c.st.stack)), Rc.d (D.int IntKind.i64 y4.target), Rc.new (8 : Nat) ([] ++ rowsOn c.buf ++ [[D.int IntKind.i64 c.st.pc, D.int IntKind.i64 (0 : Int), D.int IntKind.i64 (0 : Int), D.int IntKind.i64 (-1 : Int), D.int IntKind.i64 y4.target, D.bool true, D.bool false, D.bool (decide ((4 : Int) ≤ (↑(List.length (rowsOn (Option.getD y5 []))) : Int)))]]), Rc.d (D.sl (rowsOn y6)), Rc.d (D.int IntKind.i64 c.fin)], Sum.inl (Rc.d (D.bool true))]))))))))))
       (VC.br (y4.kind == (11 : Int))
        (VC.need ((List.all (rowsOn c.buf) fun r ↦ List.length r == (8 : Nat)) = true ∧ (List.all ([] : List (List D)) fun r ↦ List.length r == (8 : Nat)) = true ∧ ((0 : Nat) + List.length (rowsOn c.buf) + (100 : Nat)) * (49 : Nat) ≤ (70368744177664 : Nat))
        (VC.need ((List.all [[D.int IntKind.i64 c.st.pc, D.int IntKind.i64 (0 : Int), D.int IntKind.i64 (0 : Int), D.int IntKind.i64 (-1 : Int), D.int IntKind.i64 (-1 : Int), D.bool true, D.bool false, D.bool false]] fun r ↦ List.length r == (8 : Nat)) = true ∧ (List.all ([] ++ rowsOn c.buf) fun r ↦ List.length r == (8 : Nat)) = true ∧ (List.length ([] ++ rowsOn c.buf) + List.length [[D.int IntKind.i64 c.st.pc, D.int IntKind.i64 (0 : Int), D.int IntKind.i64 (0 : Int), D.int IntKind.i64 (-1 : Int), D.int IntKind.i64 (-1 : Int), D.bool true, D.bool false, D.bool false]] + (100 : Nat)) * (49 : Nat) ≤ (70368744177664 : Nat))
        (VC.ret (some (RR.tup [Sum.inr [Rc.d (D.int IntKind.i64 c.st.r0), Rc.d (D.int IntKind.i64 c.st.r1), Rc.d (D.int IntKind.i64 c.st.r2), Rc.d (D.int IntKind.i64 c.st.r3), Rc.d (D.sl (rowsOn c.st.mem)), Rc.d (D.sl (rowsOn c.st.stack)), Rc.d (D.int IntKind.i64 (-1 : Int)), Rc.new (8 : Nat) ([] ++ rowsOn c.buf ++ [[D.int IntKind.i64 c.st.pc, D.int IntKind.i64 (0 : Int), D.int IntKind.i64 (0 : Int), D.int IntKind.i64 (-1 : Int), D.int IntKind.i64 (-1 : Int), D.bool true, D.bool false, D.bool false]]), Rc.d (D.sl (rowsOn c.rsb)), Rc.d (D.int IntKind.i64 c.fin)], Sum.inl (Rc.d (D.bool true))])))))
        (VC.br (y4.kind == (12 : Int))
         (VC.need ((List.all (rowsOn c.buf) fun r ↦ List.length r == (8 : Nat)) = true ∧ (List.all ([] : List (List D)) fun r ↦ List.length r == (8 : Nat)) = true ∧ ((0 : Nat) + List.length (rowsOn c.buf) + (100 : Nat)) * (49 : Nat) ≤ (70368744177664 : Nat))
         (VC.need ((List.all [[D.int IntKind.i64 c.st.pc, D.int IntKind.i64 (0 : Int), D.int IntKind.i64 (0 : Int), D.int IntKind.i64 (-1 : Int), D.int IntKind.i64 (-1 : Int), D.bool true, D.bool false, D.bool false]] fun r ↦ List.length r == (8 : Nat)) = true ∧ (List.all ([] ++ rowsOn c.buf) fun r ↦ List.length r == (8 : Nat)) = true ∧ (List.length ([] ++ rowsOn c.buf) + List.length [[D.int IntKind.i64 c.st.pc, D.int IntKind.i64 (0 : Int), D.int IntKind.i64 (0 : Int), D.int IntKind.i64 (-1 : Int), D.int IntKind.i64 (-1 : Int), D.bool true, D.bool false, D.bool false]] + (100 : Nat)) * (49 : Nat) ≤ (70368744177664 : Nat))
         (VC.ret (some (RR.tup [Sum.inr [Rc.d (D.int IntKind.i64 c.st.r0), Rc.d (D.int IntKind.i64 c.st.r1), Rc.d (D.int IntKind.i64 c.st.r2), Rc.d (D.int IntKind.i64 c.st.r3), Rc.d (D.sl (rowsOn c.st.mem)), Rc.d (D.sl (rowsOn c.st.stack)), Rc.d (D.int IntKind.i64 (-1 : Int)), Rc.new (8 : Nat) ([] ++ rowsOn c.buf ++ [[D.int IntKind.i64 c.st.pc, D.int IntKind.i64 (0 : Int), D.int IntKind.i64 (0 : Int), D.int IntKind.i64 (-1 : Int), D.int IntKind.i64 (-1 : Int), D.bool true, D.bool false, D.bool false]]), Rc.d (D.sl (rowsOn c.rsb)), Rc.d (D.int IntKind.i64 c.fin)], Sum.inl (Rc.d (D.bool true))])))))
         (VC.need ((List.all (rowsOn c.buf) fun r ↦ List.length r == (8 : Nat)) = true ∧ (List.all ([] : List (List D)) fun r ↦ List.length r == (8 : Nat)) = true ∧ ((0 : Nat) + List.length (rowsOn c.buf) + (100 : Nat)) * (49 : Nat) ≤ (70368744177664 : Nat))
         (VC.need ((List.all [[D.int IntKind.i64 c.st.pc, D.int IntKind.i64 (0 : Int), D.int IntKind.i64 (0 : Int), D.int IntKind.i64 (-1 : Int), D.int IntKind.i64 (IntKind.wrap IntKind.i64 (c.st.pc + (1 : Int))), D.bool false, D.bool false, D.bool false]] fun r ↦ List.length r == (8 : Nat)) = true ∧ (List.all ([] ++ rowsOn c.buf) fun r ↦ List.length r == (8 : Nat)) = true ∧ (List.length ([] ++ rowsOn c.buf) + List.length [[D.int IntKind.i64 c.st.pc, D.int IntKind.i64 (0 : Int), D.int IntKind.i64 (0 : Int), D.int IntKind.i64 (-1 : Int), D.int IntKind.i64 (IntKind.wrap IntKind.i64 (c.st.pc + (1 : Int))), D.bool false, D.bool false, D.bool false]] + (100 : Nat)) * (49 : Nat) ≤ (70368744177664 : Nat))
         (VC.ret (some (RR.tup [Sum.inr [Rc.d (D.int IntKind.i64 c.st.r0), Rc.d (D.int IntKind.i64 c.st.r1), Rc.d (D.int IntKind.i64 c.st.r2), Rc.d (D.int IntKind.i64 c.st.r3), Rc.d (D.sl (rowsOn c.st.mem)), Rc.d (D.sl (rowsOn c.st.stack)), Rc.d (D.int IntKind.i64 (IntKind.wrap IntKind.i64 (c.st.pc + (1 : Int)))), Rc.new (8 : Nat) ([] ++ rowsOn c.buf ++ [[D.int IntKind.i64 c.st.pc, D.int IntKind.i64 (0 : Int), D.int IntKind.i64 (0 : Int), D.int IntKind.i64 (-1 : Int), D.int IntKind.i64 (IntKind.wrap IntKind.i64 (c.st.pc + (1 : Int))), D.bool false, D.bool false, D.bool false]]), Rc.d (D.sl (rowsOn c.rsb)), Rc.d (D.int IntKind.i64 c.fin)], Sum.inl (Rc.d (D.bool true))])))))))))))))))))) := by kernel_rfl
theorem realK_app (p : Prg) (l : List Ent) (e : Ent) (s : List Int) : ∀ k : Nat, k ≤ l.length → realK p (l ++ [e]) k s = realK p l k s
  | 0, _ => rfl
  | k + 1, h => by
    have ih := realK_app p l e s k (by omega)
    have er : rd (l ++ [e]) (k : Int) = rd l (k : Int) := by
      rw [rd_getE _ k (by simp; omega), rd_getE _ k (by omega), List.getElem_append_left]
    unfold realK
    rw [ih, er]
theorem rd_app_lt (l : List Ent) (e : Ent) (k : Nat) (h : k < l.length) : rd (l ++ [e]) (k : Int) = rd l (k : Int) := by
  rw [rd_getE _ k (by simp; omega), rd_getE _ k h, List.getElem_append_left]
theorem rd_app_eq (l : List Ent) (e : Ent) : rd (l ++ [e]) (l.length : Int) = e := by
  rw [rd_getE _ l.length (by simp)]
  simp
theorem mach_app {n : Int} {p : Prg} {c : Conf} (hm : Mach n p c) (e : Ent) (pc : Int) (rs : List Int) (hrs : (rs.length : Int) ≤ n + 1) (h1 : e.known = false) (h2 : e.done = true → (atS p.ins e.pc).kind ≠ 9) : Mach (n + 1) p ⟨⟨c.st.r0, c.st.r1, c.st.r2, c.st.r3, c.st.mem, c.st.stack, pc⟩, c.buf ++ [e], rs, c.fin⟩ := by
  obtain ⟨⟨b1, b2, b3, b4⟩, b5⟩ := hm
  refine ⟨⟨by simp; omega, hrs, by dsimp only; omega, b4⟩, fun k hk => ?_⟩
  dsimp only at hk ⊢
  rw [List.length_append, List.length_singleton] at hk
  by_cases h : k < c.buf.length
  · obtain ⟨g1, g2⟩ := b5 k h
    refine ⟨?_, ?_⟩
    · rw [rd_app_lt _ _ _ h]; exact g1
    · rw [rd_app_lt _ _ _ h, realK_app _ _ _ _ _ (by omega)]; exact g2
  · have ek : k = c.buf.length := by omega
    subst ek
    refine ⟨?_, ?_⟩
    · rw [rd_app_eq, h1]; intro _ q; cases q
    · rw [rd_app_eq]; intro q d; exact absurd q (h2 d)
end Go.Proofs.Ytmhfhobaicklmaa.Ax
end

section
/- The machine that guesses, by the document: doing. -/
namespace Go.Proofs.Ytmhfhobaicklmaa.Ax
open Go.RowKit
set_option linter.unusedVariables false
set_option linter.unusedSimpArgs false
noncomputable def Z_goes : Zo := mkZ Try.prog 0 [(106, ⟨100000, fun _ => none, fun _ => none⟩)]
theorem Z_goes_ok : ZOK Try.prog 1 Z_goes := zok_mk fun p hp => by
  simp only [List.mem_cons, List.not_mem_nil, or_false] at hp
  subst hp
  exact zok_none _ _ _
def conf0 : Conf := ⟨⟨0, 0, 0, 0, [], [], 0⟩, [], [], 0⟩
/-- An entry is put in its place. -/
def putC (c : Conf) (i : Int) (e : Ent) : Conf := { c with buf := c.buf.set i.toNat e }
def goesC (c : Conf) (i : Int) (e : Ent) (to : Int) : Conf × List Obs × Bool :=
  if e.next = to then (putC c i e, [⟨3, to⟩], true)
  else (⟨{ c.st with pc := to }, (c.buf.set i.toNat { e with next := to }).take (i + 1).toNat, c.rsb, c.fin⟩, [⟨3, to⟩], true)
def doneS (p : Prg) (c : Conf) (i : Int) (e : Ent) (x : Ins) (t : Int × Int × Int × Bool × Bool) : Conf × List Obs × Bool :=
  if x.kind = 1 then (putC c i { e with val := (doS p.w x.op t.1 t.2.1).1 }, [], true)
  else if x.kind = 4 then (putC c i { e with val := if t.1 = 0 then t.2.2.1 else t.2.1 }, [], true)
  else if x.kind = 3 then (putC c i { e with val := t.2.2.1 }, [], true)
  else if x.kind = 2 then
    (if (c.st.mem.length : Int) ≤ maskS p.w (IntKind.wrap .i64 (t.1 + t.2.1)) then (putC c i { e with addr := maskS p.w (IntKind.wrap .i64 (t.1 + t.2.1)), known := true, fault := true }, [], true)
     else (putC c i { e with addr := maskS p.w (IntKind.wrap .i64 (t.1 + t.2.1)), known := true, val := (loadS p c.st.mem c.buf i (maskS p.w (IntKind.wrap .i64 (t.1 + t.2.1)))).1, fro := (loadS p c.st.mem c.buf i (maskS p.w (IntKind.wrap .i64 (t.1 + t.2.1)))).2.1 }, [⟨1, maskS p.w (IntKind.wrap .i64 (t.1 + t.2.1))⟩], true))
  else if x.kind = 5 then goesC c i e (if (doS p.w x.op t.1 t.2.1).1 = 0 then IntKind.wrap .i64 (e.pc + 1) else x.target)
  else if x.kind = 7 then goesC c i e (min t.1 p.ins.length)
  else if x.kind = 9 then (match realK p c.buf (cutS c.buf i).length c.st.stack with
    | none => (putC c i { e with fault := true }, [], true)
    | some l => if l.length = 0 then (putC c i { e with fault := true }, [], true) else goesC c i e (rd l ((l.length : Int) - 1)))
  else (putC c i e, [], true)
def r9doS (p : Prg) (c : Conf) (i : Int) : Conf × List Obs × Bool :=
  if canS p c i = false then (conf0, [], false)
  else doneS p c i { rd c.buf i with done := true } (atS p.ins (rd c.buf i).pc) (toldC p c i (atS p.ins (rd c.buf i).pc))
def rdo (x : Conf × List Obs × Bool) : RR := .tup [.inr (x.1.cells.map .d), .inl (.d (.sl (rowsOn x.2.1))), .inl (.d (.bool x.2.2))]
noncomputable def a_r9Do : FnA := (fnAZ Try.prog Z_goes Try.f83 3 [(1000000015, [2, 3, 4, 6, 9, 10, 11, 12, 13])]).getD ⟨0, .skip, [], []⟩
noncomputable def s_r9Do : Sp := spT [c_r9Can.gfe v_r9Can sh_r9Can e_r9Can, c_rAt.gfe v_rAt sh_rAt e_rAt, c_r9Told.gfe v_r9Told sh_r9Told e_r9Told, c_rDo.gfe v_rDo sh_rDo e_rDo, c_rMask.gfe v_rMask sh_rMask e_rMask, c_r9Load.gfe v_r9Load sh_r9Load e_r9Load, c_rJump.gfe v_rJump sh_rJump e_rJump, c_r9Real.gfe v_r9Real sh_r9Real e_r9Real]
theorem s_r9Do_sound : s_r9Do.sound Try.prog := spT_sound fun e he => by
  simp only [List.mem_cons, List.not_mem_nil, or_false] at he
  rcases he with rfl | rfl | rfl | rfl | rfl | rfl | rfl | rfl
  · exact FT.gfe_good c_r9Can_good
  · exact FT.gfe_good c_rAt_good
  · exact FT.gfe_good c_r9Told_good
  · exact FT.gfe_good c_rDo_good
  · exact FT.gfe_good c_rMask_good
  · exact FT.gfe_good c_r9Load_good
  · exact FT.gfe_good c_rJump_good
  · exact FT.gfe_good c_r9Real_good
def F_do (p : Prg) (c : Conf) (n : Nat) (R : List (List D)) (x : Ins) (i a b d : Int) : St := ⟨mkS 235 [(2, vi i), (3, vp 192), (4, vp 256), (6, vp 384), (9, .c (.aptr 2304 1 i.toNat 0)), (10, vp 640), (11, vi a), (12, vi b), (13, vi d)], [(192, bx p.cells), (256, bc [.d (.int .i64 c.st.r0), .d (.int .i64 c.st.r1), .d (.int .i64 c.st.r2), .d (.int .i64 c.st.r3), .d (.sl (rowsOn c.st.mem)), .d (.sl (rowsOn c.st.stack)), .d (.int .i64 c.st.pc), .own 2304 1 n, .d (.sl (rowsOn c.rsb)), .d (.int .i64 c.fin)]), (384, bc [.d (.int .i64 0), .d (.int .i64 0), .d (.int .i64 0), .d (.int .i64 0), .nil, .nil, .d (.int .i64 0), .nil, .nil, .d (.int .i64 0)]), (640, bx (row x)), (2304, ba 8 R)]⟩
set_option maxRecDepth 100000 in
theorem t_r9Do (p : Prg) (c : Conf) (i : Int) : a_r9Do.start s_r9Do 400 [ap p, aC c, ai i] =
(VC.need (PreOk c_r9Can (Prg.of (Prg.cells p), Conf.of [D.int IntKind.i64 c.st.r0, D.int IntKind.i64 c.st.r1, D.int IntKind.i64 c.st.r2, D.int IntKind.i64 c.st.r3, D.sl (rowsOn c.st.mem), D.sl (rowsOn c.st.stack), D.int IntKind.i64 c.st.pc, D.sl (rowsOn c.buf), D.sl (rowsOn c.rsb), D.int IntKind.i64 c.fin], i) [A.agg (Prg.cells p), A.agg [D.int IntKind.i64 c.st.r0, D.int IntKind.i64 c.st.r1, D.int IntKind.i64 c.st.r2, D.int IntKind.i64 c.st.r3, D.sl (rowsOn c.st.mem), D.sl (rowsOn c.st.stack), D.int IntKind.i64 c.st.pc, D.sl (rowsOn c.buf), D.sl (rowsOn c.rsb), D.int IntKind.i64 c.fin], A.c (D.int IntKind.i64 i)])
(VC.all (v_r9Can (Prg.of (Prg.cells p), Conf.of [D.int IntKind.i64 c.st.r0, D.int IntKind.i64 c.st.r1, D.int IntKind.i64 c.st.r2, D.int IntKind.i64 c.st.r3, D.sl (rowsOn c.st.mem), D.sl (rowsOn c.st.stack), D.int IntKind.i64 c.st.pc, D.sl (rowsOn c.buf), D.sl (rowsOn c.rsb), D.int IntKind.i64 c.fin], i)) fun (y3 : Bool) =>
(VC.br (!y3)
 (VC.ret (some (RR.tup [Sum.inr [Rc.d (D.int IntKind.i64 (0 : Int)), Rc.d (D.int IntKind.i64 (0 : Int)), Rc.d (D.int IntKind.i64 (0 : Int)), Rc.d (D.int IntKind.i64 (0 : Int)), Rc.nil, Rc.nil, Rc.d (D.int IntKind.i64 (0 : Int)), Rc.nil, Rc.nil, Rc.d (D.int IntKind.i64 (0 : Int))], Sum.inl Rc.nil, Sum.inl (Rc.d (D.bool false))])))
 (VC.need ((List.all (rowsOn c.buf) fun r ↦ List.length r == (8 : Nat)) = true ∧ (List.all ([] : List (List D)) fun r ↦ List.length r == (8 : Nat)) = true ∧ ((0 : Nat) + List.length (rowsOn c.buf) + (100 : Nat)) * (49 : Nat) ≤ (70368744177664 : Nat))
 (VC.need ((0 : Int) ≤ i ∧ i < (↑((0 : Nat) + List.length (rowsOn c.buf)) : Int))
 (VC.need (Int.toNat i < List.length ([] ++ rowsOn c.buf) ∧ List.length (rowAt ([] ++ rowsOn c.buf) (Int.toNat i)) = (8 : Nat) ∧ (6 : Nat) ≤ (8 : Nat))
 (VC.need (Int.toNat i < List.length (List.set ([] ++ rowsOn c.buf) (Int.toNat i) (splice (rowAt ([] ++ rowsOn c.buf) (Int.toNat i)) (5 : Nat) [D.bool true])) ∧ List.length (rowAt (List.set ([] ++ rowsOn c.buf) (Int.toNat i) (splice (rowAt ([] ++ rowsOn c.buf) (Int.toNat i)) (5 : Nat) [D.bool true])) (Int.toNat i)) = (8 : Nat) ∧ okSh [Kd.int IntKind.i64] (List.drop (0 : Nat) (rowAt (List.set ([] ++ rowsOn c.buf) (Int.toNat i) (splice (rowAt ([] ++ rowsOn c.buf) (Int.toNat i)) (5 : Nat) [D.bool true])) (Int.toNat i))))
 (VC.need (PreOk c_rAt (Prg.of (Prg.cells p), asInt (List.getD (List.drop (0 : Nat) (rowAt (List.set ([] ++ rowsOn c.buf) (Int.toNat i) (splice (rowAt ([] ++ rowsOn c.buf) (Int.toNat i)) (5 : Nat) [D.bool true])) (Int.toNat i))) (0 : Nat) D.nilp)) [A.agg (Prg.cells p), A.c (D.int IntKind.i64 (asInt (List.getD (List.drop (0 : Nat) (rowAt (List.set ([] ++ rowsOn c.buf) (Int.toNat i) (splice (rowAt ([] ++ rowsOn c.buf) (Int.toNat i)) (5 : Nat) [D.bool true])) (Int.toNat i))) (0 : Nat) D.nilp)))])
 (VC.all (v_rAt (Prg.of (Prg.cells p), asInt (List.getD (List.drop (0 : Nat) (rowAt (List.set ([] ++ rowsOn c.buf) (Int.toNat i) (splice (rowAt ([] ++ rowsOn c.buf) (Int.toNat i)) (5 : Nat) [D.bool true])) (Int.toNat i))) (0 : Nat) D.nilp))) fun (y4 : Ins) =>
 (VC.need (PreOk c_r9Told (Prg.of (Prg.cells p), Conf.of [D.int IntKind.i64 c.st.r0, D.int IntKind.i64 c.st.r1, D.int IntKind.i64 c.st.r2, D.int IntKind.i64 c.st.r3, D.sl (rowsOn c.st.mem), D.sl (rowsOn c.st.stack), D.int IntKind.i64 c.st.pc, D.sl (List.set ([] ++ rowsOn c.buf) (Int.toNat i) (splice (rowAt ([] ++ rowsOn c.buf) (Int.toNat i)) (5 : Nat) [D.bool true])), D.sl (rowsOn c.rsb), D.int IntKind.i64 c.fin], i, Row.of [D.int IntKind.i64 y4.kind, D.int IntKind.i64 y4.op, D.int IntKind.i64 y4.d, D.bool y4.aR, D.int IntKind.i64 y4.aN, D.bool y4.bR, D.int IntKind.i64 y4.bN, D.str y4.name, D.int IntKind.i64 y4.target]) [A.agg (Prg.cells p), A.agg [D.int IntKind.i64 c.st.r0, D.int IntKind.i64 c.st.r1, D.int IntKind.i64 c.st.r2, D.int IntKind.i64 c.st.r3, D.sl (rowsOn c.st.mem), D.sl (rowsOn c.st.stack), D.int IntKind.i64 c.st.pc, D.sl (List.set ([] ++ rowsOn c.buf) (Int.toNat i) (splice (rowAt ([] ++ rowsOn c.buf) (Int.toNat i)) (5 : Nat) [D.bool true])), D.sl (rowsOn c.rsb), D.int IntKind.i64 c.fin], A.c (D.int IntKind.i64 i), A.agg [D.int IntKind.i64 y4.kind, D.int IntKind.i64 y4.op, D.int IntKind.i64 y4.d, D.bool y4.aR, D.int IntKind.i64 y4.aN, D.bool y4.bR, D.int IntKind.i64 y4.bN, D.str y4.name, D.int IntKind.i64 y4.target]])
 (VC.all (((valS2 (Prg.of (Prg.cells p)) (Conf.regs (Conf.of [D.int IntKind.i64 c.st.r0, D.int IntKind.i64 c.st.r1, D.int IntKind.i64 c.st.r2, D.int IntKind.i64 c.st.r3, D.sl (rowsOn c.st.mem), D.sl (rowsOn c.st.stack), D.int IntKind.i64 c.st.pc, D.sl (List.set ([] ++ rowsOn c.buf) (Int.toNat i) (splice (rowAt ([] ++ rowsOn c.buf) (Int.toNat i)) (5 : Nat) [D.bool true])), D.sl (rowsOn c.rsb), D.int IntKind.i64 c.fin])) (listOf Ent (List.set ([] ++ rowsOn c.buf) (Int.toNat i) (splice (rowAt ([] ++ rowsOn c.buf) (Int.toNat i)) (5 : Nat) [D.bool true]))) i (asBool (List.getD [D.int IntKind.i64 y4.kind, D.int IntKind.i64 y4.op, D.int IntKind.i64 y4.d, D.bool y4.aR, D.int IntKind.i64 y4.aN, D.bool y4.bR, D.int IntKind.i64 y4.bN, D.str y4.name, D.int IntKind.i64 y4.target] (3 : Nat) D.nilp)) (asInt (List.getD [D.int IntKind.i64 y4.kind, D.int IntKind.i64 y4.op, D.int IntKind.i64 y4.d, D.bool y4.aR, D.int IntKind.i64 y4.aN, D.bool y4.bR, D.int IntKind.i64 y4.bN, D.str y4.name, D.int IntKind.i64 y4.target] (4 : Nat) D.nilp))).fst, (valS2 (Prg.of (Prg.cells p)) (Conf.regs (Conf.of [D.int IntKind.i64 c.st.r0, D.int IntKind.i64 c.st.r1, D.int IntKind.i64 c.st.r2, D.int IntKind.i64 c.st.r3, D.sl (rowsOn c.st.mem), D.sl (rowsOn c.st.stack), D.int IntKind.i64 c.st.pc, D.sl (List.set ([] ++ rowsOn c.buf) (Int.toNat i) (splice (rowAt ([] ++ rowsOn c.buf) (Int.toNat i)) (5 : Nat) [D.bool true])), D.sl (rowsOn c.rsb), D.int IntKind.i64 c.fin])) (listOf Ent (List.set ([] ++ rowsOn c.buf) (Int.toNat i) (splice (rowAt ([] ++ rowsOn c.buf) (Int.toNat i)) (5 : Nat) [D.bool true]))) i (asBool (List.getD [D.int IntKind.i64 y4.kind, D.int IntKind.i64 y4.op, D.int IntKind.i64 y4.d, D.bool y4.aR, D.int IntKind.i64 y4.aN, D.bool y4.bR, D.int IntKind.i64 y4.bN, D.str y4.name, D.int IntKind.i64 y4.target] (5 : Nat) D.nilp)) (asInt (List.getD [D.int IntKind.i64 y4.kind, D.int IntKind.i64 y4.op, D.int IntKind.i64 y4.d, D.bool y4.aR, D.int IntKind.i64 y4.aN, D.bool y4.bR, D.int IntKind.i64 y4.bN, D.str y4.name, D.int IntKind.i64 y4.target] (6 : Nat) D.nilp))).fst, (regS (Prg.of (Prg.cells p)) (Conf.regs (Conf.of [D.int IntKind.i64 c.st.r0, D.int IntKind.i64 c.st.r1, D.int IntKind.i64 c.st.r2, D.int IntKind.i64 c.st.r3, D.sl (rowsOn c.st.mem), D.sl (rowsOn c.st.stack), D.int IntKind.i64 c.st.pc, D.sl (List.set ([] ++ rowsOn c.buf) (Int.toNat i) (splice (rowAt ([] ++ rowsOn c.buf) (Int.toNat i)) (5 : Nat) [D.bool true])), D.sl (rowsOn c.rsb), D.int IntKind.i64 c.fin])) (listOf Ent (List.set ([] ++ rowsOn c.buf) (Int.toNat i) (splice (rowAt ([] ++ rowsOn c.buf) (Int.toNat i)) (5 : Nat) [D.bool true]))) i (asInt (List.getD [D.int IntKind.i64 y4.kind, D.int IntKind.i64 y4.op, D.int IntKind.i64 y4.d, D.bool y4.aR, D.int IntKind.i64 y4.aN, D.bool y4.bR, D.int IntKind.i64 y4.bN, D.str y4.name, D.int IntKind.i64 y4.target] (2 : Nat) D.nilp))).fst, (valS2 (Prg.of (Prg.cells p)) (Conf.regs (Conf.of [D.int IntKind.i64 c.st.r0, D.int IntKind.i64 c.st.r1, D.int IntKind.i64 c.st.r2, D.int IntKind.i64 c.st.r3, D.sl (rowsOn c.st.mem), D.sl (rowsOn c.st.stack), D.int IntKind.i64 c.st.pc, D.sl (List.set ([] ++ rowsOn c.buf) (Int.toNat i) (splice (rowAt ([] ++ rowsOn c.buf) (Int.toNat i)) (5 : Nat) [D.bool true])), D.sl (rowsOn c.rsb), D.int IntKind.i64 c.fin])) (listOf Ent (List.set ([] ++ rowsOn c.buf) (Int.toNat i) (splice (rowAt ([] ++ rowsOn c.buf) (Int.toNat i)) (5 : Nat) [D.bool true]))) i (asBool (List.getD [D.int IntKind.i64 y4.kind, D.int IntKind.i64 y4.op, D.int IntKind.i64 y4.d, D.bool y4.aR, D.int IntKind.i64 y4.aN, D.bool y4.bR, D.int IntKind.i64 y4.bN, D.str y4.name, D.int IntKind.i64 y4.target] (3 : Nat) D.nilp)) (asInt (List.getD [D.int IntKind.i64 y4.kind, D.int IntKind.i64 y4.op, D.int IntKind.i64 y4.d, D.bool y4.aR, D.int IntKind.i64 y4.aN, D.bool y4.bR, D.int IntKind.i64 y4.bN, D.str y4.name, D.int IntKind.i64 y4.target] (4 : Nat) D.nilp))).snd && (valS2 (Prg.of (Prg.cells p)) (Conf.regs (Conf.of [D.int IntKind.i64 c.st.r0, D.int IntKind.i64 c.st.r1, D.int IntKind.i64 c.st.r2, D.int IntKind.i64 c.st.r3, D.sl (rowsOn c.st.mem), D.sl (rowsOn c.st.stack), D.int IntKind.i64 c.st.pc, D.sl (List.set ([] ++ rowsOn c.buf) (Int.toNat i) (splice (rowAt ([] ++ rowsOn c.buf) (Int.toNat i)) (5 : Nat) [D.bool true])), D.sl (rowsOn c.rsb), D.int IntKind.i64 c.fin])) (listOf Ent (List.set ([] ++ rowsOn c.buf) (Int.toNat i) (splice (rowAt ([] ++ rowsOn c.buf) (Int.toNat i)) (5 : Nat) [D.bool true]))) i (asBool (List.getD [D.int IntKind.i64 y4.kind, D.int IntKind.i64 y4.op, D.int IntKind.i64 y4.d, D.bool y4.aR, D.int IntKind.i64 y4.aN, D.bool y4.bR, D.int IntKind.i64 y4.bN, D.str y4.name, D.int IntKind.i64 y4.target] (5 : Nat) D.nilp)) (asInt (List.getD [D.int IntKind.i64 y4.kind, D.int IntKind.i64 y4.op, D.int IntKind.i64 y4.d, D.bool y4.aR, D.int IntKind.i64 y4.aN, D.bool y4.bR, D.int IntKind.i64 y4.bN, D.str y4.name, D.int IntKind.i64 y4.target] (6 : Nat) D.nilp))).snd, (regS (Prg.of (Prg.cells p)) (Conf.regs (Conf.of [D.int IntKind.i64 c.st.r0, D.int IntKind.i64 c.st.r1, D.int IntKind.i64 c.st.r2, D.int IntKind.i64 c.st.r3, D.sl (rowsOn c.st.mem), D.sl (rowsOn c.st.stack), D.int IntKind.i64 c.st.pc, D.sl (List.set ([] ++ rowsOn c.buf) (Int.toNat i) (splice (rowAt ([] ++ rowsOn c.buf) (Int.toNat i)) (5 : Nat) [D.bool true])), D.sl (rowsOn c.rsb), D.int IntKind.i64 c.fin])) (listOf Ent (List.set ([] ++ rowsOn c.buf) (Int.toNat i) (splice (rowAt ([] ++ rowsOn c.buf) (Int.toNat i)) (5 : Nat) [D.bool true]))) i (asInt (List.getD [D.int IntKind.i64 y4.kind, D.int IntKind.i64 y4.op, D.int IntKind.i64 y4.d, D.bool y4.aR, D.int IntKind.i64 y4.aN, D.bool y4.bR, D.int IntKind.i64 y4.bN, D.str y4.name, D.int IntKind.i64 y4.target] (2 : Nat) D.nilp))).snd)) fun (y5 : Int × Int × Int × Bool × Bool) =>
 (FnA.at_ a_r9Do 0 (F_do p c ((0 : Nat) + List.length (rowsOn c.buf)) (List.set ([] ++ rowsOn c.buf) (Int.toNat i) (splice (rowAt ([] ++ rowsOn c.buf) (Int.toNat i)) (5 : Nat) [D.bool true])) y4 i y5.fst y5.snd.fst y5.snd.snd.fst))))))))))))) := by kernel_rfl
set_option maxRecDepth 100000 in
theorem t_r9d0 (p : Prg) (c : Conf) (n : Nat) (R : List (List D)) (x : Ins) (i a b d : Int) : a_r9Do.round s_r9Do 400 0 (F_do p c n R x i a b d) =
(VC.br (x.kind == (1 : Int))
 (VC.need (PreOk c_rDo (p.w, x.op, a, b) [A.c (D.int IntKind.i64 p.w), A.c (D.int IntKind.i64 x.op), A.c (D.int IntKind.i64 a), A.c (D.int IntKind.i64 b)])
 (VC.all (v_rDo (p.w, x.op, a, b)) fun (y9 : Int × Bool) =>
 (VC.need (Int.toNat i < List.length R ∧ List.length (rowAt R (Int.toNat i)) = (8 : Nat) ∧ (2 : Nat) ≤ (8 : Nat))
 (VC.ret (some (RR.tup [Sum.inr [Rc.d (D.int IntKind.i64 c.st.r0), Rc.d (D.int IntKind.i64 c.st.r1), Rc.d (D.int IntKind.i64 c.st.r2), Rc.d (D.int IntKind.i64 c.st.r3), Rc.d (D.sl (rowsOn c.st.mem)), Rc.d (D.sl (rowsOn c.st.stack)), Rc.d (D.int IntKind.i64 c.st.pc), Rc.new (8 : Nat) (List.set R (Int.toNat i) (splice (rowAt R (Int.toNat i)) (1 : Nat) [D.int IntKind.i64 y9.fst])), Rc.d (D.sl (rowsOn c.rsb)), Rc.d (D.int IntKind.i64 c.fin)], Sum.inl Rc.nil, Sum.inl (Rc.d (D.bool true))]))))))
 (VC.br (x.kind == (4 : Int))
  (VC.need (Int.toNat i < List.length R ∧ List.length (rowAt R (Int.toNat i)) = (8 : Nat) ∧ (2 : Nat) ≤ (8 : Nat))
  (VC.br (a != (0 : Int))
   (VC.need (Int.toNat i < List.length (List.set R (Int.toNat i) (splice (rowAt R (Int.toNat i)) (1 : Nat) [D.int IntKind.i64 d])) ∧ List.length (rowAt (List.set R (Int.toNat i) (splice (rowAt R (Int.toNat i)) (1 : Nat) [D.int IntKind.i64 d])) (Int.toNat i)) = (8 : Nat) ∧ (2 : Nat) ≤ (8 : Nat))
   (VC.ret (some (RR.tup [Sum.inr [Rc.d (D.int IntKind.i64 c.st.r0), Rc.d (D.int IntKind.i64 c.st.r1), Rc.d (D.int IntKind.i64 c.st.r2), Rc.d (D.int IntKind.i64 c.st.r3), Rc.d (D.sl (rowsOn c.st.mem)), Rc.d (D.sl (rowsOn c.st.stack)), Rc.d (D.int IntKind.i64 c.st.pc), Rc.new (8 : Nat) (List.set (List.set R (Int.toNat i) (splice (rowAt R (Int.toNat i)) (1 : Nat) [D.int IntKind.i64 d])) (Int.toNat i) (splice (rowAt (List.set R (Int.toNat i) (splice (rowAt R (Int.toNat i)) (1 : Nat) [D.int IntKind.i64 d])) (Int.toNat i)) (1 : Nat) [D.int IntKind.i64 b])), Rc.d (D.sl (rowsOn c.rsb)), Rc.d (D.int IntKind.i64 c.fin)], Sum.inl Rc.nil, Sum.inl (Rc.d (D.bool true))]))))
   (VC.ret (some (RR.tup [Sum.inr [Rc.d (D.int IntKind.i64 c.st.r0), Rc.d (D.int IntKind.i64 c.st.r1), Rc.d (D.int IntKind.i64 c.st.r2), Rc.d (D.int IntKind.i64 c.st.r3), Rc.d (D.sl (rowsOn c.st.mem)), Rc.d (D.sl (rowsOn c.st.stack)), Rc.d (D.int IntKind.i64 c.st.pc), Rc.new (8 : Nat) (List.set R (Int.toNat i) (splice (rowAt R (Int.toNat i)) (1 : Nat) [D.int IntKind.i64 d])), Rc.d (D.sl (rowsOn c.rsb)), Rc.d (D.int IntKind.i64 c.fin)], Sum.inl Rc.nil, Sum.inl (Rc.d (D.bool true))])))))
  (VC.br (x.kind == (3 : Int))
   (VC.need (Int.toNat i < List.length R ∧ List.length (rowAt R (Int.toNat i)) = (8 : Nat) ∧ (2 : Nat) ≤ (8 : Nat))
   (VC.ret (some (RR.tup [Sum.inr [Rc.d (D.int IntKind.i64 c.st.r0), Rc.d (D.int IntKind.i64 c.st.r1), Rc.d (D.int IntKind.i64 c.st.r2), Rc.d (D.int IntKind.i64 c.st.r3), Rc.d (D.sl (rowsOn c.st.mem)), Rc.d (D.sl (rowsOn c.st.stack)), Rc.d (D.int IntKind.i64 c.st.pc), Rc.new (8 : Nat) (List.set R (Int.toNat i) (splice (rowAt R (Int.toNat i)) (1 : Nat) [D.int IntKind.i64 d])), Rc.d (D.sl (rowsOn c.rsb)), Rc.d (D.int IntKind.i64 c.fin)], Sum.inl Rc.nil, Sum.inl (Rc.d (D.bool true))]))))
   (VC.br (x.kind == (2 : Int))
    (VC.need (PreOk c_rMask (p.w, IntKind.wrap IntKind.i64 (a + b)) [A.c (D.int IntKind.i64 p.w), A.c (D.int IntKind.i64 (IntKind.wrap IntKind.i64 (a + b)))])
    (VC.all (v_rMask (p.w, IntKind.wrap IntKind.i64 (a + b))) fun (y9 : Int) =>
    (VC.need (Int.toNat i < List.length R ∧ List.length (rowAt R (Int.toNat i)) = (8 : Nat) ∧ (3 : Nat) ≤ (8 : Nat))
    (VC.need (Int.toNat i < List.length (List.set R (Int.toNat i) (splice (rowAt R (Int.toNat i)) (2 : Nat) [D.int IntKind.i64 y9])) ∧ List.length (rowAt (List.set R (Int.toNat i) (splice (rowAt R (Int.toNat i)) (2 : Nat) [D.int IntKind.i64 y9])) (Int.toNat i)) = (8 : Nat) ∧ (7 : Nat) ≤ (8 : Nat))
    (VC.need (Int.toNat i < List.length (List.set (List.set R (Int.toNat i) (splice (rowAt R (Int.toNat i)) (2 : Nat) [D.int IntKind.i64 y9])) (Int.toNat i) (splice (rowAt (List.set R (Int.toNat i) (splice (rowAt R (Int.toNat i)) (2 : Nat) [D.int IntKind.i64 y9])) (Int.toNat i)) (6 : Nat) [D.bool true])) ∧ List.length (rowAt (List.set (List.set R (Int.toNat i) (splice (rowAt R (Int.toNat i)) (2 : Nat) [D.int IntKind.i64 y9])) (Int.toNat i) (splice (rowAt (List.set R (Int.toNat i) (splice (rowAt R (Int.toNat i)) (2 : Nat) [D.int IntKind.i64 y9])) (Int.toNat i)) (6 : Nat) [D.bool true])) (Int.toNat i)) = (8 : Nat) ∧ okSh [Kd.int IntKind.i64] (List.drop (2 : Nat) (rowAt (List.set (List.set R (Int.toNat i) (splice (rowAt R (Int.toNat i)) (2 : Nat) [D.int IntKind.i64 y9])) (Int.toNat i) (splice (rowAt (List.set R (Int.toNat i) (splice (rowAt R (Int.toNat i)) (2 : Nat) [D.int IntKind.i64 y9])) (Int.toNat i)) (6 : Nat) [D.bool true])) (Int.toNat i))))
    (VC.br (decide ((↑(List.length (rowsOn c.st.mem)) : Int) ≤ asInt (List.getD (List.drop (2 : Nat) (rowAt (List.set (List.set R (Int.toNat i) (splice (rowAt R (Int.toNat i)) (2 : Nat) [D.int IntKind.i64 y9])) (Int.toNat i) (splice (rowAt (List.set R (Int.toNat i) (splice (rowAt R (Int.toNat i)) (2 : Nat) [D.int IntKind.i64 y9])) (Int.toNat i)) (6 : Nat) [D.bool true])) (Int.toNat i))) (0 : Nat) D.nilp)))
     (VC.need (Int.toNat i < List.length (List.set (List.set R (Int.toNat i) (splice (rowAt R (Int.toNat i)) (2 : Nat) [D.int IntKind.i64 y9])) (Int.toNat i) (splice (rowAt (List.set R (Int.toNat i) (splice (rowAt R (Int.toNat i)) (2 : Nat) [D.int IntKind.i64 y9])) (Int.toNat i)) (6 : Nat) [D.bool true])) ∧ List.length (rowAt (List.set (List.set R (Int.toNat i) (splice (rowAt R (Int.toNat i)) (2 : Nat) [D.int IntKind.i64 y9])) (Int.toNat i) (splice (rowAt (List.set R (Int.toNat i) (splice (rowAt R (Int.toNat i)) (2 : Nat) [D.int IntKind.i64 y9])) (Int.toNat i)) (6 : Nat) [D.bool true])) (Int.toNat i)) = (8 : Nat) ∧ (8 : Nat) ≤ (8 : Nat))
     (VC.ret (some (RR.tup [Sum.inr [Rc.d (D.int IntKind.i64 c.st.r0), Rc.d (D.int IntKind.i64 c.st.r1), Rc.d (D.int IntKind.i64 c.st.r2), Rc.d (D.int IntKind.i64 c.st.r3), Rc.d (D.sl (rowsOn c.st.mem)), Rc.d (D.sl (rowsOn c.st.stack)), Rc.d (D.int IntKind.i64 c.st.pc), Rc.new (8 : Nat) (List.set (List.set (List.set R (Int.toNat i) (splice (rowAt R (Int.toNat i)) (2 : Nat) [D.int IntKind.i64 y9])) (Int.toNat i) (splice (rowAt (List.set R (Int.toNat i) (splice (rowAt R (Int.toNat i)) (2 : Nat) [D.int IntKind.i64 y9])) (Int.toNat i)) (6 : Nat) [D.bool true])) (Int.toNat i) (splice (rowAt (List.set (List.set R (Int.toNat i) (splice (rowAt R (Int.toNat i)) (2 : Nat) [D.int IntKind.i64 y9])) (Int.toNat i) (splice (rowAt (List.set R (Int.toNat i) (splice (rowAt R (Int.toNat i)) (2 : Nat) [D.int IntKind.i64 y9])) (Int.toNat i)) (6 : Nat) [D.bool true])) (Int.toNat i)) (7 : Nat) [D.bool true])), Rc.d (D.sl (rowsOn c.rsb)), Rc.d (D.int IntKind.i64 c.fin)], Sum.inl Rc.nil, Sum.inl (Rc.d (D.bool true))]))))
     (VC.need (Int.toNat i < List.length (List.set (List.set R (Int.toNat i) (splice (rowAt R (Int.toNat i)) (2 : Nat) [D.int IntKind.i64 y9])) (Int.toNat i) (splice (rowAt (List.set R (Int.toNat i) (splice (rowAt R (Int.toNat i)) (2 : Nat) [D.int IntKind.i64 y9])) (Int.toNat i)) (6 : Nat) [D.bool true])) ∧ List.length (rowAt (List.set (List.set R (Int.toNat i) (splice (rowAt R (Int.toNat i)) (2 : Nat) [D.int IntKind.i64 y9])) (Int.toNat i) (splice (rowAt (List.set R (Int.toNat i) (splice (rowAt R (Int.toNat i)) (2 : Nat) [D.int IntKind.i64 y9])) (Int.toNat i)) (6 : Nat) [D.bool true])) (Int.toNat i)) = (8 : Nat) ∧ okSh [Kd.int IntKind.i64] (List.drop (2 : Nat) (rowAt (List.set (List.set R (Int.toNat i) (splice (rowAt R (Int.toNat i)) (2 : Nat) [D.int IntKind.i64 y9])) (Int.toNat i) (splice (rowAt (List.set R (Int.toNat i) (splice (rowAt R (Int.toNat i)) (2 : Nat) [D.int IntKind.i64 y9])) (Int.toNat i)) (6 : Nat) [D.bool true])) (Int.toNat i))))
     (VC.need (PreOk c_r9Load (Prg.of (Prg.cells p), c.st.mem, listOf Ent (List.set (List.set R (Int.toNat i) (splice (rowAt R (Int.toNat i)) (2 : Nat) [D.int IntKind.i64 y9])) (Int.toNat i) (splice (rowAt (List.set R (Int.toNat i) (splice (rowAt R (Int.toNat i)) (2 : Nat) [D.int IntKind.i64 y9])) (Int.toNat i)) (6 : Nat) [D.bool true])), i, asInt (List.getD (List.drop (2 : Nat) (rowAt (List.set (List.set R (Int.toNat i) (splice (rowAt R (Int.toNat i)) (2 : Nat) [D.int IntKind.i64 y9])) (Int.toNat i) (splice (rowAt (List.set R (Int.toNat i) (splice (rowAt R (Int.toNat i)) (2 : Nat) [D.int IntKind.i64 y9])) (Int.toNat i)) (6 : Nat) [D.bool true])) (Int.toNat i))) (0 : Nat) D.nilp)) [A.agg (Prg.cells p), A.c (D.sl (rowsOn c.st.mem)), A.c (D.sl (List.set (List.set R (Int.toNat i) (splice (rowAt R (Int.toNat i)) (2 : Nat) [D.int IntKind.i64 y9])) (Int.toNat i) (splice (rowAt (List.set R (Int.toNat i) (splice (rowAt R (Int.toNat i)) (2 : Nat) [D.int IntKind.i64 y9])) (Int.toNat i)) (6 : Nat) [D.bool true]))), A.c (D.int IntKind.i64 i), A.c (D.int IntKind.i64 (asInt (List.getD (List.drop (2 : Nat) (rowAt (List.set (List.set R (Int.toNat i) (splice (rowAt R (Int.toNat i)) (2 : Nat) [D.int IntKind.i64 y9])) (Int.toNat i) (splice (rowAt (List.set R (Int.toNat i) (splice (rowAt R (Int.toNat i)) (2 : Nat) [D.int IntKind.i64 y9])) (Int.toNat i)) (6 : Nat) [D.bool true])) (Int.toNat i))) (0 : Nat) D.nilp)))])
     (VC.all (v_r9Load (Prg.of (Prg.cells p), listOf Int (rowsOn c.st.mem), listOf Ent (List.set (List.set R (Int.toNat i) (splice (rowAt R (Int.toNat i)) (2 : Nat) [D.int IntKind.i64 y9])) (Int.toNat i) (splice (rowAt (List.set R (Int.toNat i) (splice (rowAt R (Int.toNat i)) (2 : Nat) [D.int IntKind.i64 y9])) (Int.toNat i)) (6 : Nat) [D.bool true])), i, asInt (List.getD (List.drop (2 : Nat) (rowAt (List.set (List.set R (Int.toNat i) (splice (rowAt R (Int.toNat i)) (2 : Nat) [D.int IntKind.i64 y9])) (Int.toNat i) (splice (rowAt (List.set R (Int.toNat i) (splice (rowAt R (Int.toNat i)) (2 : Nat) [D.int IntKind.i64 y9])) (Int.toNat i)) (6 : Nat) [D.bool true])) (Int.toNat i))) (0 : Nat) D.nilp))) fun (y10 : Int × Int × Bool) =>
     (VC.need (Int.toNat i < List.length (List.set (List.set R (Int.toNat i) (splice (rowAt R (Int.toNat i)) (2 : Nat) [D.int IntKind.i64 y9])) (Int.toNat i) (splice (rowAt (List.set R (Int.toNat i) (splice (rowAt R (Int.toNat i)) (2 : Nat) [D.int IntKind.i64 y9])) (Int.toNat i)) (6 : Nat) [D.bool true])) ∧ List.length (rowAt (List.set (List.set R (Int.toNat i) (splice (rowAt R (Int.toNat i)) (2 : Nat) [D.int IntKind.i64 y9])) (Int.toNat i) (splice (rowAt (List.set R (Int.toNat i) (splice (rowAt R (Int.toNat i)) (2 : Nat) [D.int IntKind.i64 y9])) (Int.toNat i)) (6 : Nat) [D.bool true])) (Int.toNat i)) = (8 : Nat) ∧ (2 : Nat) ≤ (8 : Nat))
     (VC.need (Int.toNat i < List.length (List.set (List.set (List.set R (Int.toNat i) (splice (rowAt R (Int.toNat i)) (2 : Nat) [D.int IntKind.i64 y9])) (Int.toNat i) (splice (rowAt (List.set R (Int.toNat i) (splice (rowAt R (Int.toNat i)) (2 : Nat) [D.int IntKind.i64 y9])) (Int.toNat i)) (6 : Nat) [D.bool true])) (Int.toNat i) (splice (rowAt (List.set (List.set R (Int.toNat i) (splice (rowAt R (Int.toNat i)) (2 : Nat) [D.int IntKind.i64 y9])) (Int.toNat i) (splice (rowAt (List.set R (Int.toNat i) (splice (rowAt R (Int.toNat i)) (2 : Nat) [D.int IntKind.i64 y9])) (Int.toNat i)) (6 : Nat) [D.bool true])) (Int.toNat i)) (1 : Nat) [D.int IntKind.i64 y10.fst])) ∧ List.length (rowAt (List.set (List.set (List.set R (Int.toNat i) (splice (rowAt R (Int.toNat i)) (2 : Nat) [D.int IntKind.i64 y9])) (Int.toNat i) (splice (rowAt (List.set R (Int.toNat i) (splice (rowAt R (Int.toNat i)) (2 : Nat) [D.int IntKind.i64 y9])) (Int.toNat i)) (6 : Nat) [D.bool true])) (Int.toNat i) (splice (rowAt (List.set (List.set R (Int.toNat i) (splice (rowAt R (Int.toNat i)) (2 : Nat) [D.int IntKind.i64 y9])) (Int.toNat i) (splice (rowAt (List.set R (Int.toNat i) (splice (rowAt R (Int.toNat i)) (2 : Nat) [D.int IntKind.i64 y9])) (Int.toNat i)) (6 : Nat) [D.bool true])) (Int.toNat i)) (1 : Nat) [D.int IntKind.i64 y10.fst])) (Int.toNat i)) = (8 : Nat) ∧ (4 : Nat) ≤ (8 : Nat))
     (VC.need (Int.toNat i < List.length (List.set (List.set (List.set (List.set R (Int.toNat i) (splice (rowAt R (Int.toNat i)) (2 : Nat) [D.int IntKind.i64 y9])) (Int.toNat i) (splice (rowAt (List.set R (Int.toNat i) (splice (rowAt R (Int.toNat i)) (2 : Nat) [D.int IntKind.i64 y9])) (Int.toNat i)) (6 : Nat) [D.bool true])) (Int.toNat i) (splice (rowAt (List.set (List.set R (Int.toNat i) (splice (rowAt R (Int.toNat i)) (2 : Nat) [D.int IntKind.i64 y9])) (Int.toNat i) (splice (rowAt (List.set R (Int.toNat i) (splice (rowAt R (Int.toNat i)) (2 : Nat) [D.int IntKind.i64 y9])) (Int.toNat i)) (6 : Nat) [D.bool true])) (Int.toNat i)) (1 : Nat) [D.int IntKind.i64 y10.fst])) (Int.toNat i) (splice (rowAt (List.set (List.set (List.set R (Int.toNat i) (splice (rowAt R (Int.toNat i)) (2 : Nat) [D.int IntKind.i64 y9])) (Int.toNat i) (splice (rowAt (List.set R (Int.toNat i) (splice (rowAt R (Int.toNat i)) (2 : Nat) [D.int IntKind.i64 y9])) (Int.toNat i)) (6 : Nat) [D.bool true])) (Int.toNat i) (splice (rowAt (List.set (List.set R (Int.toNat i) (splice (rowAt R (Int.toNat i)) (2 : Nat) [D.int IntKind.i64 y9])) (Int.toNat i) (splice (rowAt (List.set R (Int.toNat i) (splice (rowAt R (Int.toNat i)) (2 : Nat) [D.int IntKind.i64 y9])) (Int.toNat i)) (6 : Nat) [D.bool true])) (Int.toNat i)) (1 : Nat) [D.int IntKind.i64 y10.fst])) (Int.toNat i)) (3 : Nat) [D.int IntKind.i64 y10.snd.fst])) ∧ List.length (rowAt (List.set (List.set (List.set (List.set R (Int.toNat i) (splice (rowAt R (Int.toNat i)) (2 : Nat) [D.int IntKind.i64 y9])) (Int.toNat i) (splice (rowAt (List.set R (Int.toNat i) (splice (rowAt R (Int.toNat i)) (2 : Nat) [D.int IntKind.i64 y9])) (Int.toNat i)) (6 : Nat) [D.bool true])) (Int.toNat i) (splice (rowAt (List.set (List.set R (Int.toNat i) (splice (rowAt R (Int.toNat i)) (2 : Nat) [D.int IntKind.i64 y9])) (Int.toNat i) (splice (rowAt (List.set R (Int.toNat i) (splice (rowAt R (Int.toNat i)) (2 : Nat) [D.int IntKind.i64 y9])) (Int.toNat i)) (6 : Nat) [D.bool true])) (Int.toNat i)) (1 : Nat) [D.int IntKind.i64 y10.fst])) (Int.toNat i) (splice (rowAt (List.set (List.set (List.set R (Int.toNat i) (splice (rowAt R (Int.toNat i)) (2 : Nat) [D.int IntKind.i64 y9])) (Int.toNat i) (splice (rowAt (List.set R (Int.toNat i) (splice (rowAt R (Int.toNat i)) (2 : Nat) [D.int IntKind.i64 y9])) (Int.toNat i)) (6 : Nat) [D.bool true])) (Int.toNat i) (splice (rowAt (List.set (List.set R (Int.toNat i) (splice (rowAt R (Int.toNat i)) (2 : Nat) [D.int IntKind.i64 y9])) (Int.toNat i) (splice (rowAt (List.set R (Int.toNat i) (splice (rowAt R (Int.toNat i)) (2 : Nat) [D.int IntKind.i64 y9])) (Int.toNat i)) (6 : Nat) [D.bool true])) (Int.toNat i)) (1 : Nat) [D.int IntKind.i64 y10.fst])) (Int.toNat i)) (3 : Nat) [D.int IntKind.i64 y10.snd.fst])) (Int.toNat i)) = (8 : Nat) ∧ okSh [Kd.int IntKind.i64] (List.drop (2 : Nat) (rowAt (List.set (List.set (List.set (List.set R (Int.toNat i) (splice (rowAt R (Int.toNat i)) (2 : Nat) [D.int IntKind.i64 y9])) (Int.toNat i) (splice (rowAt (List.set R (Int.toNat i) (splice (rowAt R (Int.toNat i)) (2 : Nat) [D.int IntKind.i64 y9])) (Int.toNat i)) (6 : Nat) [D.bool true])) (Int.toNat i) (splice (rowAt (List.set (List.set R (Int.toNat i) (splice (rowAt R (Int.toNat i)) (2 : Nat) [D.int IntKind.i64 y9])) (Int.toNat i) (splice (rowAt (List.set R (Int.toNat i) (splice (rowAt R (Int.toNat i)) (2 : Nat) [D.int IntKind.i64 y9])) (Int.toNat i)) (6 : Nat) [D.bool true])) (Int.toNat i)) (1 : Nat) [D.int IntKind.i64 y10.fst])) (Int.toNat i) (splice (rowAt (List.set (List.set (List.set R (Int.toNat i) (splice (rowAt R (Int.toNat i)) (2 : Nat) [D.int IntKind.i64 y9])) (Int.toNat i) (splice (rowAt (List.set R (Int.toNat i) (splice (rowAt R (Int.toNat i)) (2 : Nat) [D.int IntKind.i64 y9])) (Int.toNat i)) (6 : Nat) [D.bool true])) (Int.toNat i) (splice (rowAt (List.set (List.set R (Int.toNat i) (splice (rowAt R (Int.toNat i)) (2 : Nat) [D.int IntKind.i64 y9])) (Int.toNat i) (splice (rowAt (List.set R (Int.toNat i) (splice (rowAt R (Int.toNat i)) (2 : Nat) [D.int IntKind.i64 y9])) (Int.toNat i)) (6 : Nat) [D.bool true])) (Int.toNat i)) (1 : Nat) [D.int IntKind.i64 y10.fst])) (Int.toNat i)) (3 : Nat) [D.int IntKind.i64 y10.snd.fst])) (Int.toNat i))))
     (VC.ret (some (RR.tup [Sum.inr [Rc.d (D.int IntKind.i64 c.st.r0), Rc.d (D.int IntKind.i64 c.st.r1), Rc.d (D.int IntKind.i64 c.st.r2), Rc.d (D.int IntKind.i64 c.st.r3), Rc.d (D.sl (rowsOn c.st.mem)), Rc.d (D.sl (rowsOn c.st.stack)), Rc.d (D.int IntKind.i64 c.st.pc), Rc.new (8 : Nat) (List.set (List.set (List.set (List.set R (Int.toNat i) (splice (rowAt R (Int.toNat i)) (2 : Nat) [D.int IntKind.i64 y9])) (Int.toNat i) (splice (rowAt (List.set R (Int.toNat i) (splice (rowAt R (Int.toNat i)) (2 : Nat) [D.int IntKind.i64 y9])) (Int.toNat i)) (6 : Nat) [D.bool true])) (Int.toNat i) (splice (rowAt (List.set (List.set R (Int.toNat i) (splice (rowAt R (Int.toNat i)) (2 : Nat) [D.int IntKind.i64 y9])) (Int.toNat i) (splice (rowAt (List.set R (Int.toNat i) (splice (rowAt R (Int.toNat i)) (2 : Nat) [D.int IntKind.i64 y9])) (Int.toNat i)) (6 : Nat) [D.bool true])) (Int.toNat i)) (1 : Nat) [D.int IntKind.i64 y10.fst])) (Int.toNat i) (splice (rowAt (List.set (List.set (List.set R (Int.toNat i) (splice (rowAt R (Int.toNat i)) (2 : Nat) [D.int IntKind.i64 y9])) (Int.toNat i) (splice (rowAt (List.set R (Int.toNat i) (splice (rowAt R (Int.toNat i)) (2 : Nat) [D.int IntKind.i64 y9])) (Int.toNat i)) (6 : Nat) [D.bool true])) (Int.toNat i) (splice (rowAt (List.set (List.set R (Int.toNat i) (splice (rowAt R (Int.toNat i)) (2 : Nat) [D.int IntKind.i64 y9])) (Int.toNat i) (splice (rowAt (List.set R (Int.toNat i) (splice (rowAt R (Int.toNat i)) (2 : Nat) [D.int IntKind.i64 y9])) (Int.toNat i)) (6 : Nat) [D.bool true])) (Int.toNat i)) (1 : Nat) [D.int IntKind.i64 y10.fst])) (Int.toNat i)) (3 : Nat) [D.int IntKind.i64 y10.snd.fst])), Rc.d (D.sl (rowsOn c.rsb)), Rc.d (D.int IntKind.i64 c.fin)], Sum.inl (Rc.new (2 : Nat) [[D.int IntKind.i64 (1 : Int), D.int IntKind.i64 (asInt (List.getD (List.drop (2 : Nat) (rowAt (List.set (List.set (List.set (List.set R (Int.toNat i) (splice (rowAt R (Int.toNat i)) (2 : Nat) [D.int IntKind.i64 y9])) (Int.toNat i) (splice (rowAt (List.set R (Int.toNat i) (splice (rowAt R (Int.toNat i)) (2 : Nat) [D.int IntKind.i64 y9])) (Int.toNat i)) (6 : Nat) [D.bool true])) (Int.toNat i) (splice (rowAt (List.set (List.set R (Int.toNat i) (splice (rowAt R (Int.toNat i)) (2 : Nat) [D.int IntKind.i64 y9])) (Int.toNat i) (splice (rowAt (List.set R (Int.toNat i) (splice (rowAt R (Int.toNat i)) (2 : Nat) [D.int IntKind.i64 y9])) (Int.toNat i)) (6 : Nat) [D.bool true])) (Int.toNat i)) (1 : Nat) [D.int IntKind.i64 y10.fst])) (Int.toNat i) (splice (rowAt (List.set (List.set (List.set R (Int.toNat i) (splice (rowAt R (Int.toNat i)) (2 : Nat) [D.int IntKind.i64 y9])) (Int.toNat i) (splice (rowAt (List.set R (Int.toNat i) (splice (rowAt R (Int.toNat i)) (2 : Nat) [D.int IntKind.i64 y9])) (Int.toNat i)) (6 : Nat) [D.bool true])) (Int.toNat i) (splice (rowAt (List.set (List.set R (Int.toNat i) (splice (rowAt R (Int.toNat i)) (2 : Nat) [D.int IntKind.i64 y9])) (Int.toNat i) (splice (rowAt (List.set R (Int.toNat i) (splice (rowAt R (Int.toNat i)) (2 : Nat) [D.int IntKind.i64 y9])) (Int.toNat i)) (6 : Nat) [D.bool true])) (Int.toNat i)) (1 : Nat) [D.int IntKind.i64 y10.fst])) (Int.toNat i)) (3 : Nat) [D.int IntKind.i64 y10.snd.fst])) (Int.toNat i))) (0 : Nat) D.nilp))]]), Sum.inl (Rc.d (D.bool true))])))))))))))))))
    (VC.br (x.kind == (5 : Int))
     (VC.need (Int.toNat i < List.length R ∧ List.length (rowAt R (Int.toNat i)) = (8 : Nat) ∧ okSh [Kd.int IntKind.i64] (List.drop (0 : Nat) (rowAt R (Int.toNat i))))
     (VC.need (PreOk c_rDo (p.w, x.op, a, b) [A.c (D.int IntKind.i64 p.w), A.c (D.int IntKind.i64 x.op), A.c (D.int IntKind.i64 a), A.c (D.int IntKind.i64 b)])
     (VC.all (v_rDo (p.w, x.op, a, b)) fun (y9 : Int × Bool) =>
     (VC.br (y9.fst != (0 : Int))
      (VC.need ((0 : Int) ≤ i ∧ i < (↑n : Int))
      (VC.need (Int.toNat i < List.length R ∧ List.length (rowAt R (Int.toNat i)) = (8 : Nat) ∧ okSh [Kd.int IntKind.i64] (List.drop (4 : Nat) (rowAt R (Int.toNat i))))
      (VC.br (asInt (List.getD (List.drop (4 : Nat) (rowAt R (Int.toNat i))) (0 : Nat) D.nilp) != x.target)
       (VC.need ((0 : Int) ≤ i ∧ i < (↑n : Int))
       (VC.need (Int.toNat i < List.length R ∧ List.length (rowAt R (Int.toNat i)) = (8 : Nat) ∧ (5 : Nat) ≤ (8 : Nat))
       (VC.need ((0 : Int) ≤ IntKind.wrap IntKind.i64 (i + (1 : Int)) ∧ IntKind.wrap IntKind.i64 (i + (1 : Int)) ≤ (↑(List.length (List.set R (Int.toNat i) (splice (rowAt R (Int.toNat i)) (4 : Nat) [D.int IntKind.i64 x.target]))) : Int))
       (VC.ret (some (RR.tup [Sum.inr [Rc.d (D.int IntKind.i64 c.st.r0), Rc.d (D.int IntKind.i64 c.st.r1), Rc.d (D.int IntKind.i64 c.st.r2), Rc.d (D.int IntKind.i64 c.st.r3), Rc.d (D.sl (rowsOn c.st.mem)), Rc.d (D.sl (rowsOn c.st.stack)), Rc.d (D.int IntKind.i64 x.target), Rc.new (8 : Nat) (List.take (Int.toNat (IntKind.wrap IntKind.i64 (i + (1 : Int)))) (List.set R (Int.toNat i) (splice (rowAt R (Int.toNat i)) (4 : Nat) [D.int IntKind.i64 x.target]))), Rc.d (D.sl (rowsOn c.rsb)), Rc.d (D.int IntKind.i64 c.fin)], Sum.inl (Rc.new (2 : Nat) [[D.int IntKind.i64 (3 : Int), D.int IntKind.i64 x.target]]), Sum.inl (Rc.d (D.bool true))]))))))
       (VC.ret (some (RR.tup [Sum.inr [Rc.d (D.int IntKind.i64 c.st.r0), Rc.d (D.int IntKind.i64 c.st.r1), Rc.d (D.int IntKind.i64 c.st.r2), Rc.d (D.int IntKind.i64 c.st.r3), Rc.d (D.sl (rowsOn c.st.mem)), Rc.d (D.sl (rowsOn c.st.stack)), Rc.d (D.int IntKind.i64 c.st.pc), Rc.new (8 : Nat) R, Rc.d (D.sl (rowsOn c.rsb)), Rc.d (D.int IntKind.i64 c.fin)], Sum.inl (Rc.new (2 : Nat) [[D.int IntKind.i64 (3 : Int), D.int IntKind.i64 x.target]]), Sum.inl (Rc.d (D.bool true))]))))))
      (VC.need ((0 : Int) ≤ i ∧ i < (↑n : Int))
      (VC.need (Int.toNat i < List.length R ∧ List.length (rowAt R (Int.toNat i)) = (8 : Nat) ∧ okSh [Kd.int IntKind.i64] (List.drop (4 : Nat) (rowAt R (Int.toNat i))))
      (VC.br (asInt (List.getD (List.drop (4 : Nat) (rowAt R (Int.toNat i))) (0 : Nat) D.nilp) != IntKind.wrap IntKind.i64 (asInt (List.getD (List.drop (0 : Nat) (rowAt R (Int.toNat i))) (0 : Nat) D.nilp) + (1 : Int)))
       (VC.need ((0 : Int) ≤ i ∧ i < (↑n : Int))
       (VC.need (Int.toNat i < List.length R ∧ List.length (rowAt R (Int.toNat i)) = (8 : Nat) ∧ (5 : Nat) ≤ (8 : Nat))
       (VC.need ((0 : Int) ≤ IntKind.wrap IntKind.i64 (i + (1 : Int)) ∧ IntKind.wrap IntKind.i64 (i + (1 : Int)) ≤ (↑(List.length (List.set R (Int.toNat i) (splice (rowAt R (Int.toNat i)) (4 : Nat) [D.int IntKind.i64 (IntKind.wrap IntKind.i64 (asInt (List.getD (List.drop (0 : Nat) (rowAt R (Int.toNat i))) (0 : Nat) D.nilp) + (1 : Int)))]))) : Int))
       (VC.ret (some (RR.tup [Sum.inr [Rc.d (D.int IntKind.i64 c.st.r0), Rc.d (D.int IntKind.i64 c.st.r1), Rc.d (D.int IntKind.i64 c.st.r2), Rc.d (D.int IntKind.i64 c.st.r3), Rc.d (D.sl (rowsOn c.st.mem)), Rc.d (D.sl (rowsOn c.st.stack)), Rc.d (D.int IntKind.i64 (IntKind.wrap IntKind.i64 (asInt (List.getD (List.drop (0 : Nat) (rowAt R (Int.toNat i))) (0 : Nat) D.nilp) + (1 : Int)))), Rc.new (8 : Nat) (List.take (Int.toNat (IntKind.wrap IntKind.i64 (i + (1 : Int)))) (List.set R (Int.toNat i) (splice (rowAt R (Int.toNat i)) (4 : Nat) [D.int IntKind.i64 (IntKind.wrap IntKind.i64 (asInt (List.getD (List.drop (0 : Nat) (rowAt R (Int.toNat i))) (0 : Nat) D.nilp) + (1 : Int)))]))), Rc.d (D.sl (rowsOn c.rsb)), Rc.d (D.int IntKind.i64 c.fin)], Sum.inl (Rc.new (2 : Nat) [[D.int IntKind.i64 (3 : Int), D.int IntKind.i64 (IntKind.wrap IntKind.i64 (asInt (List.getD (List.drop (0 : Nat) (rowAt R (Int.toNat i))) (0 : Nat) D.nilp) + (1 : Int)))]]), Sum.inl (Rc.d (D.bool true))]))))))
       (VC.ret (some (RR.tup [Sum.inr [Rc.d (D.int IntKind.i64 c.st.r0), Rc.d (D.int IntKind.i64 c.st.r1), Rc.d (D.int IntKind.i64 c.st.r2), Rc.d (D.int IntKind.i64 c.st.r3), Rc.d (D.sl (rowsOn c.st.mem)), Rc.d (D.sl (rowsOn c.st.stack)), Rc.d (D.int IntKind.i64 c.st.pc), Rc.new (8 : Nat) R, Rc.d (D.sl (rowsOn c.rsb)), Rc.d (D.int IntKind.i64 c.fin)], Sum.inl (Rc.new (2 : Nat) [[D.int IntKind.i64 (3 : Int), D.int IntKind.i64 (IntKind.wrap IntKind.i64 (asInt (List.getD (List.drop (0 : Nat) (rowAt R (Int.toNat i))) (0 : Nat) D.nilp) + (1 : Int)))]]), Sum.inl (Rc.d (D.bool true))]))))))))))
     (VC.br (x.kind == (7 : Int))
      (VC.need (PreOk c_rJump (Prg.of (Prg.cells p), a) [A.agg (Prg.cells p), A.c (D.int IntKind.i64 a)])
      (VC.all (v_rJump (Prg.of (Prg.cells p), a)) fun (y9 : Int) =>
      (VC.need ((0 : Int) ≤ i ∧ i < (↑n : Int))
      (VC.need (Int.toNat i < List.length R ∧ List.length (rowAt R (Int.toNat i)) = (8 : Nat) ∧ okSh [Kd.int IntKind.i64] (List.drop (4 : Nat) (rowAt R (Int.toNat i))))
      (VC.br (asInt (List.getD (List.drop (4 : Nat) (rowAt R (Int.toNat i))) (0 : Nat) D.nilp) != y9)
       (VC.need ((0 : Int) ≤ i ∧ i < (↑n : Int))
       (VC.need (Int.toNat i < List.length R ∧ List.length (rowAt R (Int.toNat i)) = (8 : Nat) ∧ (5 : Nat) ≤ (8 : Nat))
       (VC.need ((0 : Int) ≤ IntKind.wrap IntKind.i64 (i + (1 : Int)) ∧ IntKind.wrap IntKind.i64 (i + (1 : Int)) ≤ (↑(List.length (List.set R (Int.toNat i) (splice (rowAt R (Int.toNat i)) (4 : Nat) [D.int IntKind.i64 y9]))) : Int))
       (VC.ret (some (RR.tup [Sum.inr [Rc.d (D.int IntKind.i64 c.st.r0), Rc.d (D.int IntKind.i64 c.st.r1), Rc.d (D.int IntKind.i64 c.st.r2), Rc.d (D.int IntKind.i64 c.st.r3), Rc.d (D.sl (rowsOn c.st.mem)), Rc.d (D.sl (rowsOn c.st.stack)), Rc.d (D.int IntKind.i64 y9), Rc.new (8 : Nat) (List.take (Int.toNat (IntKind.wrap IntKind.i64 (i + (1 : Int)))) (List.set R (Int.toNat i) (splice (rowAt R (Int.toNat i)) (4 : Nat) [D.int IntKind.i64 y9]))), Rc.d (D.sl (rowsOn c.rsb)), Rc.d (D.int IntKind.i64 c.fin)], Sum.inl (Rc.new (2 : Nat) [[D.int IntKind.i64 (3 : Int), D.int IntKind.i64 y9]]), Sum.inl (Rc.d (D.bool true))]))))))
       (VC.ret (some (RR.tup [Sum.inr [Rc.d (D.int IntKind.i64 c.st.r0), Rc.d (D.int IntKind.i64 c.st.r1), Rc.d (D.int IntKind.i64 c.st.r2), Rc.d (D.int IntKind.i64 c.st.r3), Rc.d (D.sl (rowsOn c.st.mem)), Rc.d (D.sl (rowsOn c.st.stack)), Rc.d (D.int IntKind.i64 c.st.pc), Rc.new (8 : Nat) R, Rc.d (D.sl (rowsOn c.rsb)), Rc.d (D.int IntKind.i64 c.fin)], Sum.inl (Rc.new (2 : Nat) [[D.int IntKind.i64 (3 : Int), D.int IntKind.i64 y9]]), Sum.inl (Rc.d (D.bool true))]))))))))
      (VC.br (x.kind == (9 : Int))
       (VC.need (PreOk c_r9Real (Prg.of (Prg.cells p), c.st.stack, listOf Ent R, i) [A.agg (Prg.cells p), A.c (D.sl (rowsOn c.st.stack)), A.c (D.sl R), A.c (D.int IntKind.i64 i)])
       (VC.all (v_r9Real (Prg.of (Prg.cells p), listOf Int (rowsOn c.st.stack), listOf Ent R, i)) fun (y9 : Option (List Int)) =>
       (VC.br (!Option.isSome y9)
        (VC.need (Int.toNat i < List.length R ∧ List.length (rowAt R (Int.toNat i)) = (8 : Nat) ∧ (8 : Nat) ≤ (8 : Nat))
        (VC.ret (some (RR.tup [Sum.inr [Rc.d (D.int IntKind.i64 c.st.r0), Rc.d (D.int IntKind.i64 c.st.r1), Rc.d (D.int IntKind.i64 c.st.r2), Rc.d (D.int IntKind.i64 c.st.r3), Rc.d (D.sl (rowsOn c.st.mem)), Rc.d (D.sl (rowsOn c.st.stack)), Rc.d (D.int IntKind.i64 c.st.pc), Rc.new (8 : Nat) (List.set R (Int.toNat i) (splice (rowAt R (Int.toNat i)) (7 : Nat) [D.bool true])), Rc.d (D.sl (rowsOn c.rsb)), Rc.d (D.int IntKind.i64 c.fin)], Sum.inl Rc.nil, Sum.inl (Rc.d (D.bool true))]))))
        (VC.br ((↑(List.length (rowsOn (Option.getD y9 []))) : Int) == (0 : Int))
         (VC.need (Int.toNat i < List.length R ∧ List.length (rowAt R (Int.toNat i)) = (8 : Nat) ∧ (8 : Nat) ≤ (8 : Nat))
         (VC.ret (some (RR.tup [Sum.inr [Rc.d (D.int IntKind.i64 c.st.r0), Rc.d (D.int IntKind.i64 c.st.r1), Rc.d (D.int IntKind.i64 c.st.r2), Rc.d (D.int IntKind.i64 c.st.r3), Rc.d (D.sl (rowsOn c.st.mem)), Rc.d (D.sl (rowsOn c.st.stack)), Rc.d (D.int IntKind.i64 c.st.pc), Rc.new (8 : Nat) (List.set R (Int.toNat i) (splice (rowAt R (Int.toNat i)) (7 : Nat) [D.bool true])), Rc.d (D.sl (rowsOn c.rsb)), Rc.d (D.int IntKind.i64 c.fin)], Sum.inl Rc.nil, Sum.inl (Rc.d (D.bool true))]))))
         (VC.need ((0 : Int) ≤ IntKind.wrap IntKind.i64 ((↑(List.length (rowsOn (Option.getD y9 []))) : Int) - (1 : Int)) ∧ IntKind.wrap IntKind.i64 ((↑(List.length (rowsOn (Option.getD y9 []))) : Int) - (1 : Int)) < (↑(List.length (rowsOn (Option.getD y9 []))) : Int))
         (VC.need (Int.toNat (IntKind.wrap IntKind.i64 ((↑(List.length (rowsOn (Option.getD y9 []))) : Int) - (1 : Int))) < List.length (rowsOn (Option.getD y9 [])) ∧ List.length (rowAt (rowsOn (Option.getD y9 [])) (Int.toNat (IntKind.wrap IntKind.i64 ((↑(List.length (rowsOn (Option.getD y9 []))) : Int) - (1 : Int))))) = (1 : Nat) ∧ okSh [Kd.int IntKind.i64] (List.drop (0 : Nat) (rowAt (rowsOn (Option.getD y9 [])) (Int.toNat (IntKind.wrap IntKind.i64 ((↑(List.length (rowsOn (Option.getD y9 []))) : Int) - (1 : Int)))))))
         (VC.need ((0 : Int) ≤ i ∧ i < (↑n : Int))
         (VC.need (Int.toNat i < List.length R ∧ List.length (rowAt R (Int.toNat i)) = (8 : Nat) ∧ okSh [Kd.int IntKind.i64] (List.drop (4 : Nat) (rowAt R (Int.toNat i))))
         (VC.br (asInt (List.getD (List.drop (4 : Nat) (rowAt R (Int.toNat i))) (0 : Nat) D.nilp) != asInt (List.getD (List.drop (0 : Nat) (rowAt (rowsOn (Option.getD y9 [])) (Int.toNat (IntKind.wrap IntKind.i64 ((↑(List.length (rowsOn (Option.getD y9 []))) : Int) - (1 : Int)))))) (0 : Nat) D.nilp))
          (VC.need ((0 : Int) ≤ i ∧ i < (↑n : Int))
          (VC.need (Int.toNat i < List.length R ∧ List.length (rowAt R (Int.toNat i)) = (8 : Nat) ∧ (5 : Nat) ≤ (8 : Nat))
          (VC.need ((0 : Int) ≤ IntKind.wrap IntKind.i64 (i + (1 : Int)) ∧ IntKind.wrap IntKind.i64 (i + (1 : Int)) ≤ (↑(List.length (List.set R (Int.toNat i) (splice (rowAt R (Int.toNat i)) (4 : Nat) [D.int IntKind.i64 (asInt (List.getD (List.drop (0 : Nat) (rowAt (rowsOn (Option.getD y9 [])) (Int.toNat (IntKind.wrap IntKind.i64 ((↑(List.length (rowsOn (Option.getD y9 []))) : Int) - (1 : Int)))))) (0 : Nat) D.nilp))]))) : Int))
          (VC.ret (some (RR.tup [Sum.inr [Rc.d (D.int IntKind.i64 c.st.r0), Rc.d (D.int IntKind.i64 c.st.r1), Rc.d (D.int IntKind.i64 c.st.r2), Rc.d (D.int IntKind.i64 c.st.r3), Rc.d (D.sl (rowsOn c.st.mem)), Rc.d (D.sl (rowsOn c.st.stack)), Rc.d (D.int IntKind.i64 (asInt (List.getD (List.drop (0 : Nat) (rowAt (rowsOn (Option.getD y9 [])) (Int.toNat (IntKind.wrap IntKind.i64 ((↑(List.length (rowsOn (Option.getD y9 []))) : Int) - (1 : Int)))))) (0 : Nat) D.nilp))), Rc.new (8 : Nat) (List.take (Int.toNat (IntKind.wrap IntKind.i64 (i + (1 : Int)))) (List.set R (Int.toNat i) (splice (rowAt R (Int.toNat i)) (4 : Nat) [D.int IntKind.i64 (asInt (List.getD (List.drop (0 : Nat) (rowAt (rowsOn (Option.getD y9 [])) (Int.toNat (IntKind.wrap IntKind.i64 ((↑(List.length (rowsOn (Option.getD y9 []))) : Int) - (1 : Int)))))) (0 : Nat) D.nilp))]))), Rc.d (D.sl (rowsOn c.rsb)), Rc.d (D.int IntKind.i64 c.fin)], Sum.inl (Rc.new (2 : Nat) [[D.int IntKind.i64 (3 : Int), D.int IntKind.i64 (asInt (List.getD (List.drop (0 : Nat) (rowAt (rowsOn (Option.getD y9 [])) (Int.toNat (IntKind.wrap IntKind.i64 ((↑(List.length (rowsOn (Option.getD y9 []))) : Int) - (1 : Int)))))) (0 : Nat) D.nilp))]]), Sum.inl (Rc.d (D.bool true))]))))))
          (VC.ret (some (RR.tup [Sum.inr [Rc.d (D.int IntKind.i64 c.st.r0), Rc.d (D.int IntKind.i64 c.st.r1), Rc.d (D.int IntKind.i64 c.st.r2), Rc.d (D.int IntKind.i64 c.st.r3), Rc.d (D.sl (rowsOn c.st.mem)), Rc.d (D.sl (rowsOn c.st.stack)), Rc.d (D.int IntKind.i64 c.st.pc), Rc.new (8 : Nat) R, Rc.d (D.sl (rowsOn c.rsb)), Rc.d (D.int IntKind.i64 c.fin)], Sum.inl (Rc.new (2 : Nat) [[D.int IntKind.i64 (3 : Int), D.int IntKind.i64 (asInt (List.getD (List.drop (0 : Nat) (rowAt (rowsOn (Option.getD y9 [])) (Int.toNat (IntKind.wrap IntKind.i64 ((↑(List.length (rowsOn (Option.getD y9 []))) : Int) - (1 : Int)))))) (0 : Nat) D.nilp))]]), Sum.inl (Rc.d (D.bool true))]))))))))))))
       (VC.ret (some (RR.tup [Sum.inr [Rc.d (D.int IntKind.i64 c.st.r0), Rc.d (D.int IntKind.i64 c.st.r1), Rc.d (D.int IntKind.i64 c.st.r2), Rc.d (D.int IntKind.i64 c.st.r3), Rc.d (D.sl (rowsOn c.st.mem)), Rc.d (D.sl (rowsOn c.st.stack)), Rc.d (D.int IntKind.i64 c.st.pc), Rc.new (8 : Nat) R, Rc.d (D.sl (rowsOn c.rsb)), Rc.d (D.int IntKind.i64 c.fin)], Sum.inl Rc.nil, Sum.inl (Rc.d (D.bool true))])))))))))) := by kernel_rfl
theorem rowAt_set (l : List Ent) (i : Nat) (e : Ent) (h : i < l.length) : rowAt (rowsOn (l.set i e)) i = row e := by
  have h2 : i < (l.set i e).length := by rw [List.length_set]; exact h
  rw [rowAt_rowsOn _ _ h2, List.getElem_set_self]
theorem set_row (l : List Ent) (i : Nat) (e e' : Ent) (h : i < l.length) (k : Nat) (v : D) (he : splice (row e) k [v] = row e') : List.set (rowsOn (l.set i e)) i (splice (rowAt (rowsOn (l.set i e)) i) k [v]) = rowsOn (l.set i e') := by
  rw [rowAt_set l i e h, he, rowsOn_set, List.set_set]
theorem set_val (l : List Ent) (i : Nat) (e : Ent) (h : i < l.length) (v : Int) : List.set (rowsOn (l.set i e)) i (splice (rowAt (rowsOn (l.set i e)) i) 1 [.int .i64 v]) = rowsOn (l.set i { e with val := v }) := set_row l i e _ h 1 _ rfl
theorem set_addr (l : List Ent) (i : Nat) (e : Ent) (h : i < l.length) (v : Int) : List.set (rowsOn (l.set i e)) i (splice (rowAt (rowsOn (l.set i e)) i) 2 [.int .i64 v]) = rowsOn (l.set i { e with addr := v }) := set_row l i e _ h 2 _ rfl
theorem set_fro (l : List Ent) (i : Nat) (e : Ent) (h : i < l.length) (v : Int) : List.set (rowsOn (l.set i e)) i (splice (rowAt (rowsOn (l.set i e)) i) 3 [.int .i64 v]) = rowsOn (l.set i { e with fro := v }) := set_row l i e _ h 3 _ rfl
theorem set_next (l : List Ent) (i : Nat) (e : Ent) (h : i < l.length) (v : Int) : List.set (rowsOn (l.set i e)) i (splice (rowAt (rowsOn (l.set i e)) i) 4 [.int .i64 v]) = rowsOn (l.set i { e with next := v }) := set_row l i e _ h 4 _ rfl
theorem set_done (l : List Ent) (i : Nat) (e : Ent) (h : i < l.length) (v : Bool) : List.set (rowsOn (l.set i e)) i (splice (rowAt (rowsOn (l.set i e)) i) 5 [.bool v]) = rowsOn (l.set i { e with done := v }) := set_row l i e _ h 5 _ rfl
theorem set_known (l : List Ent) (i : Nat) (e : Ent) (h : i < l.length) (v : Bool) : List.set (rowsOn (l.set i e)) i (splice (rowAt (rowsOn (l.set i e)) i) 6 [.bool v]) = rowsOn (l.set i { e with known := v }) := set_row l i e _ h 6 _ rfl
theorem set_fault (l : List Ent) (i : Nat) (e : Ent) (h : i < l.length) (v : Bool) : List.set (rowsOn (l.set i e)) i (splice (rowAt (rowsOn (l.set i e)) i) 7 [.bool v]) = rowsOn (l.set i { e with fault := v }) := set_row l i e _ h 7 _ rfl
theorem fld_ok (l : List Ent) (i : Nat) (e : Ent) (h : i < l.length) {k : Nat} (hk : k ≤ 8) : i < (l.set i e).length ∧ (rowAt (rowsOn (l.set i e)) i).length = 8 ∧ k ≤ 8 := ⟨by rw [List.length_set]; exact h, by rw [rowAt_set l i e h]; rfl, hk⟩
theorem fld_sh (l : List Ent) (i : Nat) (e : Ent) (h : i < l.length) {k : Nat} {sh : List Kd} (hk : ∀ e : Ent, okSh sh ((row e).drop k)) : i < (l.set i e).length ∧ (rowAt (rowsOn (l.set i e)) i).length = 8 ∧ okSh sh (List.drop k (rowAt (rowsOn (l.set i e)) i)) := ⟨by rw [List.length_set]; exact h, by rw [rowAt_set l i e h]; rfl, by rw [rowAt_set l i e h]; exact hk e⟩
theorem get_pc (l : List Ent) (i : Nat) (e : Ent) (h : i < l.length) : asInt (List.getD (rowAt (rowsOn (l.set i e)) i) 0 D.nilp) = e.pc := by rw [rowAt_set l i e h]; rfl
theorem get_addr (l : List Ent) (i : Nat) (e : Ent) (h : i < l.length) : asInt (List.getD (rowAt (rowsOn (l.set i e)) i) 2 D.nilp) = e.addr := by rw [rowAt_set l i e h]; rfl
theorem get_next (l : List Ent) (i : Nat) (e : Ent) (h : i < l.length) : asInt (List.getD (rowAt (rowsOn (l.set i e)) i) 4 D.nilp) = e.next := by rw [rowAt_set l i e h]; rfl
theorem rd_setE (l : List Ent) (i : Int) (e : Ent) (h0 : 0 ≤ i) (h1 : i < l.length) : rd (l.set i.toNat e) i = e := by
  have h2 : i.toNat < (l.set i.toNat e).length := by rw [List.length_set]; omega
  have := rd_lt (l.set i.toNat e) i.toNat h2
  rw [Int.toNat_of_nonneg h0] at this
  rw [this, List.getElem_set_self]
theorem cutS_set (l : List Ent) (i : Int) (e : Ent) (h : 0 ≤ i) : cutS (l.set i.toNat e) i = cutS l i := by
  unfold cutS
  rw [List.length_set]
  refine List.take_set_of_le ?_
  omega
theorem load_set (p : Prg) (m : List Int) (l : List Ent) (i a : Int) (e : Ent) (h : 0 ≤ i) : loadS p m (l.set i.toNat e) i a = loadS p m l i a := by unfold loadS; rw [cutS_set l i e h]
theorem reg_set (p : Prg) (g : Regs) (l : List Ent) (i r : Int) (e : Ent) (h : 0 ≤ i) : regS p g (l.set i.toNat e) i r = regS p g l i r := by unfold regS; rw [cutS_set l i e h]
theorem val_set (p : Prg) (g : Regs) (l : List Ent) (i : Int) (b : Bool) (n : Int) (e : Ent) (h : 0 ≤ i) : valS2 p g (l.set i.toNat e) i b n = valS2 p g l i b n := by unfold valS2; rw [reg_set p g l i n e h]
theorem told_ent (p : Prg) (c : Conf) (i : Int) (e : Ent) (x : Ins) (h : 0 ≤ i) : toldC p ⟨c.st, c.buf.set i.toNat e, c.rsb, c.fin⟩ i x = toldC p c i x := by
  unfold toldC
  dsimp only [Conf.regs]
  rw [val_set p _ c.buf i x.aR x.aN e h, val_set p _ c.buf i x.bR x.bN e h, reg_set p _ c.buf i x.d e h]
theorem rd_set_ne (l : List Ent) (i k : Nat) (e : Ent) (h : k ≠ i) : rd (l.set i e) (k : Int) = rd l (k : Int) := by
  unfold rd
  rw [List.getD_eq_getElem?_getD, List.getD_eq_getElem?_getD, Int.toNat_natCast, List.getElem?_set_ne (Ne.symm h)]
theorem real_set (p : Prg) (l : List Ent) (i : Nat) (e : Ent) (s : List Int) : ∀ k : Nat, k ≤ i → realK p (l.set i e) k s = realK p l k s
  | 0, _ => rfl
  | k + 1, h => by
    have ih := real_set p l i e s k (by omega)
    unfold realK
    rw [ih, rd_set_ne l i k e (by omega)]
/-- A jump's leaves. -/
theorem do_goes {cx : Cx} {rs : List RVar} {p : Prg} {c : Conf} {i : Int} {e : Ent} {to : Int} (h0 : 0 ≤ i) (h1 : i < c.buf.length) (hl : c.buf.length ≤ 1000000) :
    (VC.need (0 ≤ i ∧ i < (c.buf.length : Int)) (VC.need (i.toNat < (c.buf.set i.toNat e).length ∧ (rowAt (rowsOn (c.buf.set i.toNat e)) i.toNat).length = 8 ∧ okSh [Kd.int .i64] (List.drop 4 (rowAt (rowsOn (c.buf.set i.toNat e)) i.toNat)))
      (VC.br (e.next != to)
        (VC.need (0 ≤ i ∧ i < (c.buf.length : Int)) (VC.need (i.toNat < (c.buf.set i.toNat e).length ∧ (rowAt (rowsOn (c.buf.set i.toNat e)) i.toNat).length = 8 ∧ 5 ≤ 8)
          (VC.need (0 ≤ i + 1 ∧ i + 1 ≤ ((c.buf.set i.toNat { e with next := to }).length : Int))
            (VC.ret (some (RR.tup [Sum.inr [Rc.d (.int .i64 c.st.r0), Rc.d (.int .i64 c.st.r1), Rc.d (.int .i64 c.st.r2), Rc.d (.int .i64 c.st.r3), Rc.d (.sl (rowsOn c.st.mem)), Rc.d (.sl (rowsOn c.st.stack)), Rc.d (.int .i64 to), Rc.new 8 (List.take (i + 1).toNat (rowsOn (c.buf.set i.toNat { e with next := to }))), Rc.d (.sl (rowsOn c.rsb)), Rc.d (.int .i64 c.fin)], Sum.inl (Rc.new 2 [[.int .i64 3, .int .i64 to]]), Sum.inl (Rc.d (.bool true))]))))))
        (VC.ret (some (RR.tup [Sum.inr [Rc.d (.int .i64 c.st.r0), Rc.d (.int .i64 c.st.r1), Rc.d (.int .i64 c.st.r2), Rc.d (.int .i64 c.st.r3), Rc.d (.sl (rowsOn c.st.mem)), Rc.d (.sl (rowsOn c.st.stack)), Rc.d (.int .i64 c.st.pc), Rc.new 8 (rowsOn (c.buf.set i.toNat e)), Rc.d (.sl (rowsOn c.rsb)), Rc.d (.int .i64 c.fin)], Sum.inl (Rc.new 2 [[.int .i64 3, .int .i64 to]]), Sum.inl (Rc.d (.bool true))])))))).holds cx rs fun r => r.data.le (rdo (goesC c i e to)) := by
  have hi : i.toNat < c.buf.length := by omega
  refine ⟨⟨h0, h1⟩, fld_sh c.buf i.toNat e hi (fun _ => rfl), br_bne (fun h => ⟨⟨h0, h1⟩, fld_ok c.buf i.toNat e hi (by decide), ⟨by omega, by rw [List.length_set]; omega⟩, ret_leD ?_⟩) (fun h => ret_leD ?_)⟩
  · have e1 : goesC c i e to = (⟨{ c.st with pc := to }, (c.buf.set i.toNat { e with next := to }).take (i + 1).toNat, c.rsb, c.fin⟩, [⟨3, to⟩], true) := by unfold goesC; rw [if_neg h]
    rw [e1, rowsOn_take]
    exact RR.le_refl _
  · have e1 : goesC c i e to = (putC c i e, [⟨3, to⟩], true) := by unfold goesC; rw [if_pos h]
    rw [e1]
    exact RR.le_refl _
theorem realK_len (p : Prg) (l : List Ent) (s : List Int) : ∀ (k : Nat) (out : List Int), realK p l k s = some out → out.length ≤ s.length + k
  | 0, out, h => by
    have h : some s = some out := h
    obtain rfl := Option.some.inj h
    omega
  | k + 1, out, h => by
    unfold realK at h
    cases hk : realK p l k s with
    | none => rw [hk] at h; cases h
    | some o2 =>
      have ih := realK_len p l s k o2 hk
      rw [hk] at h
      dsimp only at h
      split at h
      · split at h
        · cases h
        · obtain rfl := Option.some.inj h
          simp; omega
      · split at h
        · split at h
          · cases h
          · obtain rfl := Option.some.inj h
            simp; omega
        · obtain rfl := Option.some.inj h
          omega
theorem at_do (p : Prg) (c : Conf) (x : Ins) (i a b d : Int) (u v : Bool) (e : Ent) (h0 : 0 ≤ i) (h1 : i < c.buf.length) (hl : c.buf.length ≤ 1000000) (hst : c.st.stack.length ≤ 1000000) : (a_r9Do.at_ 0 (F_do p c c.buf.length (rowsOn (c.buf.set i.toNat e)) x i a b d)).holds s_r9Do.cx a_r9Do.rs (fun r => r.data.le (rdo (doneS p c i e x (a, b, d, u, v)))) := by
  refine at_of_round s_r9Do_sound (m := 400) ?_
  rw [t_r9d0]
  try simp only [asRows_sl, asInt_int, asBool_bool, asStr_str, listOf_rowsOn, List.drop_zero, Prg.eta, Sta.eta, rowsOn_length, getD_drop, Nat.reduceAdd, rd_int, rd_PMem_name, rd_PMem_secret, rd_PMem_n, rd_PLabel_name, rd_PLabel_at_, rd_Ins_kind, rd_Ins_op, rd_Ins_d, rd_Ins_aR, rd_Ins_aN, rd_Ins_bR, rd_Ins_bN, rd_Ins_name, rd_Ins_target, rd_Ent_pc, rd_Ent_val, rd_Ent_addr, rd_Ent_fro, rd_Ent_next, rd_Ent_done, rd_Ent_known, rd_Ent_fault, rd_Place_reg, rd_Place_n, rd_Place_secret, rd_Obs_kind, rd_Obs_at_, rd_Dir_kind, rd_Dir_n, Prg.of_cells, Sta.of_cells]
  have hi : i.toNat < c.buf.length := by omega
  have w1 : IntKind.wrap .i64 (i + 1) = i + 1 := wrap_small _ (by omega) (by omega)
  simp only [w1, set_val _ _ _ hi, set_addr _ _ _ hi, set_fro _ _ _ hi, set_next _ _ _ hi, set_known _ _ _ hi, set_fault _ _ _ hi, get_pc _ _ _ hi, get_addr _ _ _ hi, get_next _ _ _ hi, fun e => rd_setE c.buf i e h0 h1, rowsOn_length, List.length_set, listOf_rowsOn]
  have hk2 : ∀ (e : Ent) {k : Nat}, k ≤ 8 → i.toNat < c.buf.length ∧ (rowAt (rowsOn (c.buf.set i.toNat e)) i.toNat).length = 8 ∧ k ≤ 8 := fun e k hk => ⟨hi, by rw [rowAt_set _ _ e hi]; rfl, hk⟩
  have hs2 : ∀ (e : Ent) {k : Nat} {sh : List Kd}, (∀ e : Ent, okSh sh ((row e).drop k)) → i.toNat < c.buf.length ∧ (rowAt (rowsOn (c.buf.set i.toNat e)) i.toNat).length = 8 ∧ okSh sh (List.drop k (rowAt (rowsOn (c.buf.set i.toNat e)) i.toNat)) := fun e k sh hk => ⟨hi, by rw [rowAt_set _ _ e hi]; rfl, by rw [rowAt_set _ _ e hi]; exact hk e⟩
  have goes : ∀ to : Int, _ := fun to => do_goes (cx := s_r9Do.cx) (rs := a_r9Do.rs) (p := p) (c := c) (i := i) (e := e) (to := to) h0 h1 hl
  simp only [List.length_set] at goes
  refine br_beq (fun k1 => ?_) (fun k1 => br_beq (fun k4 => ?_) (fun k4 => br_beq (fun k3 => ?_) (fun k3 => br_beq (fun k2 => ?_) (fun k2 => br_beq (fun k5 => ?_) (fun k5 => br_beq (fun k7 => ?_) (fun k7 => br_beq (fun k9 => ?_) (fun k9 => ?_)))))))
  · have ed : doneS p c i e x (a, b, d, u, v) = (putC c i { e with val := (doS p.w x.op a b).1 }, [], true) := by unfold doneS; rw [if_pos k1]
    rw [ed]
    refine ⟨PreOk.mk trivial rfl, all_holds fun y hy => ⟨hk2 e (by decide), ret_leD ?_⟩⟩
    subst hy
    exact RR.le_refl _
  · have ed : doneS p c i e x (a, b, d, u, v) = (putC c i { e with val := if a = 0 then d else b }, [], true) := by unfold doneS; rw [if_neg k1, if_pos k4]
    rw [ed]
    refine ⟨hk2 e (by decide), br_bne (fun ha => ⟨hk2 _ (by decide), ret_leD ?_⟩) (fun ha => ret_leD ?_)⟩
    · rw [if_neg ha]; exact RR.le_refl _
    · rw [if_pos ha]; exact RR.le_refl _
  · have ed : doneS p c i e x (a, b, d, u, v) = (putC c i { e with val := d }, [], true) := by unfold doneS; rw [if_neg k1, if_neg k4, if_pos k3]
    rw [ed]
    exact ⟨hk2 e (by decide), ret_leD (RR.le_refl _)⟩
  · refine ⟨PreOk.mk trivial rfl, all_holds fun y hy => ⟨hk2 e (by decide), hk2 _ (by decide), hs2 _ (fun _ => rfl), ?_⟩⟩
    replace hy : maskS p.w (IntKind.wrap .i64 (a + b)) = y := hy.symm
    refine br_dec (fun hm => ⟨hk2 _ (by decide), ret_leD ?_⟩) (fun hm => ?_)
    · have ed : doneS p c i e x (a, b, d, u, v) = (putC c i { e with addr := y, known := true, fault := true }, [], true) := by
        unfold doneS
        rw [if_neg k1, if_neg k4, if_neg k3, if_pos k2]
        dsimp only
        rw [hy, if_pos hm]
      rw [ed]
      exact RR.le_refl _
    · have ed : doneS p c i e x (a, b, d, u, v) = (putC c i { e with addr := y, known := true, val := (loadS p c.st.mem c.buf i y).1, fro := (loadS p c.st.mem c.buf i y).2.1 }, [⟨1, y⟩], true) := by
        unfold doneS
        rw [if_neg k1, if_neg k4, if_neg k3, if_pos k2]
        dsimp only
        rw [hy, if_neg hm]
      rw [ed]
      refine ⟨hs2 _ (fun _ => rfl), PreOk.mk (by show (c.buf.set i.toNat _).length ≤ 1000000000; rw [List.length_set]; omega) rfl, all_holds fun z hz => ⟨hk2 _ (by decide), hk2 _ (by decide), hs2 _ (fun _ => rfl), ret_leD ?_⟩⟩
      replace hz : z = loadS p c.st.mem c.buf i y := Eq.trans hz (load_set p _ c.buf i y _ h0)
      rw [hz]
      exact RR.le_refl _
  · refine ⟨⟨hi, by rw [rowAt_set _ _ e hi]; rfl, by rw [rowAt_set _ _ e hi]; rfl⟩, PreOk.mk trivial rfl, all_holds fun y hy => br_bne (fun hz => ?_) (fun hz => ?_)⟩
    · replace hy : y = doS p.w x.op a b := hy
      have ed : doneS p c i e x (a, b, d, u, v) = goesC c i e x.target := by unfold doneS; rw [if_neg k1, if_neg k4, if_neg k3, if_neg k2, if_pos k5, if_neg (by rw [← hy]; exact hz)]
      rw [ed]
      exact goes _
    · replace hy : y = doS p.w x.op a b := hy
      have ed : doneS p c i e x (a, b, d, u, v) = goesC c i e (IntKind.wrap .i64 (e.pc + 1)) := by unfold doneS; rw [if_neg k1, if_neg k4, if_neg k3, if_neg k2, if_pos k5, if_pos (by rw [← hy]; exact hz)]
      rw [ed]
      exact goes _
  · refine ⟨PreOk.mk trivial rfl, all_holds fun y hy => ?_⟩
    replace hy : y = min a p.ins.length := hy
    have ed : doneS p c i e x (a, b, d, u, v) = goesC c i e y := by unfold doneS; rw [if_neg k1, if_neg k4, if_neg k3, if_neg k2, if_neg k5, if_pos k7, hy]
    rw [ed]
    exact goes _
  · refine ⟨PreOk.mk ⟨hst, by show (c.buf.set i.toNat _).length ≤ 1000000; rw [List.length_set]; omega⟩ rfl, all_holds fun y hy => ?_⟩
    have hcl := cutS_len2 c.buf i
    replace hy : y = realK p c.buf (cutS c.buf i).length c.st.stack := by
      refine Eq.trans hy ?_
      show realK p (c.buf.set i.toNat e) (cutS (c.buf.set i.toNat e) i).length c.st.stack = _
      rw [cutS_set c.buf i e h0, real_set p c.buf i.toNat e _ _ (by omega)]
    cases y with
    | none =>
      have ed : doneS p c i e x (a, b, d, u, v) = (putC c i { e with fault := true }, [], true) := by unfold doneS; rw [if_neg k1, if_neg k4, if_neg k3, if_neg k2, if_neg k5, if_neg k7, if_pos k9, ← hy]
      rw [ed]
      exact br_not (br_holds (fun h => by cases h) (fun _ => ⟨hk2 e (by decide), ret_leD (RR.le_refl _)⟩))
    | some l =>
      have hll := realK_len p c.buf c.st.stack _ l hy.symm
      refine br_not (br_holds (fun _ => ?_) (fun h => by cases h))
      simp only [Option.getD_some]
      refine br_beq (fun hz => ⟨hk2 e (by decide), ret_leD ?_⟩) (fun hz => ?_)
      · have ed : doneS p c i e x (a, b, d, u, v) = (putC c i { e with fault := true }, [], true) := by unfold doneS; rw [if_neg k1, if_neg k4, if_neg k3, if_neg k2, if_neg k5, if_neg k7, if_pos k9, ← hy]; dsimp only; rw [if_pos (by omega)]
        rw [ed]
        exact RR.le_refl _
      · have ed : doneS p c i e x (a, b, d, u, v) = goesC c i e (rd l ((l.length : Int) - 1)) := by unfold doneS; rw [if_neg k1, if_neg k4, if_neg k3, if_neg k2, if_neg k5, if_neg k7, if_pos k9, ← hy]; dsimp only; rw [if_neg (by omega)]
        rw [ed, wrap_small ((l.length : Int) - 1) (by omega) (by omega)]
        have := aload_ok l ((l.length : Int) - 1) (n := 1) (sh := [Kd.int .i64]) rfl (fun _ => rfl) (by omega) (by omega)
        exact ⟨⟨by omega, by omega⟩, this, goes _⟩
  · have ed : doneS p c i e x (a, b, d, u, v) = (putC c i e, [], true) := by unfold doneS; rw [if_neg k1, if_neg k4, if_neg k3, if_neg k2, if_neg k5, if_neg k7, if_neg k9]
    rw [ed]
    exact ret_leD (RR.le_refl _)
theorem can_in {p : Prg} {c : Conf} {i : Int} (h : canS p c i = true) : 0 ≤ i ∧ i < c.buf.length := by
  unfold canS at h
  split at h
  · cases h
  · rename_i hn
    refine open_in (p := p) ?_
    cases ho : openS9 p c i with
    | true => rfl
    | false => exact absurd (.inl ho) hn
def c_r9Do : FT (Prg × Conf × Int) := ⟨83, fun x => [ap x.1, aC x.2.1, ai x.2.2], rdPCI, fun x => x.2.1.buf.length ≤ 1000000 ∧ x.2.1.st.stack.length ≤ 1000000, fun x => rdo (r9doS x.1 x.2.1 x.2.2), true, fun x => by simp [ap, aC, ai, rdPCI]⟩
theorem c_r9Do_good : c_r9Do.fe.Good Try.prog := by
  refine FT.good c_r9Do ⟨Try.f83, by kernel_rfl, by decide +kernel, by kernel_rfl⟩ (fun ⟨p, c, i⟩ => by first | rfl | simp [c_r9Do, rrRef, rConfB, riiibb, rreal, riib, rE, rrun, rstep, rins, rnum, rby, rss, rnewI, rnewE, rstab, rplaces, ri, rb, rib, rdo, Sta.fresh]) fun ⟨p, c, i⟩ hp => ?_
  refine acalls_leDZ Z_goes_ok s_r9Do_sound (fn := Try.f83) (a := a_r9Do) (nargs := 3) (tbl := [(1000000015, [2, 3, 4, 6, 9, 10, 11, 12, 13])]) (by kernel_rfl) (by kernel_rfl) rfl (m := 400) ?_
  show VC.holds _ _ _ (a_r9Do.start s_r9Do 400 [ap p, aC c, ai i])
  rw [t_r9Do]
  try simp only [asRows_sl, asInt_int, asBool_bool, asStr_str, listOf_rowsOn, List.drop_zero, Prg.eta, Sta.eta, rowsOn_length, getD_drop, Nat.reduceAdd, rd_int, rd_PMem_name, rd_PMem_secret, rd_PMem_n, rd_PLabel_name, rd_PLabel_at_, rd_Ins_kind, rd_Ins_op, rd_Ins_d, rd_Ins_aR, rd_Ins_aN, rd_Ins_bR, rd_Ins_bN, rd_Ins_name, rd_Ins_target, rd_Ent_pc, rd_Ent_val, rd_Ent_addr, rd_Ent_fro, rd_Ent_next, rd_Ent_done, rd_Ent_known, rd_Ent_fault, rd_Place_reg, rd_Place_n, rd_Place_secret, rd_Obs_kind, rd_Obs_at_, rd_Dir_kind, rd_Dir_n, Prg.of_cells, Sta.of_cells]
  try simp only [c_r9Do] at hp
  obtain ⟨hl, hs⟩ := hp
  have hl : c.buf.length ≤ 1000000 := hl
  have hs : c.st.stack.length ≤ 1000000 := hs
  have e : c_r9Do.ans (p, c, i) = rdo (r9doS p c i) := rfl
  rw [e]
  simp only [List.nil_append, Conf.of_mk, Nat.zero_add, List.length_nil]
  refine ⟨PreOk.mk hl rfl, all_holds fun y hy => ?_⟩
  replace hy : y = canS p c i := hy
  unfold r9doS
  rw [← hy]
  refine br_not (br_holds (fun h => ?_) (fun h => ?_))
  · rw [if_neg (by rw [h]; simp)]
    obtain ⟨h0, h1⟩ := can_in (by rw [← hy]; exact h)
    have hi : i.toNat < c.buf.length := by omega
    obtain ⟨e0, he0⟩ : ∃ e0 : Ent, e0 = { rd c.buf i with done := true } := ⟨_, rfl⟩
    have hpc : (rd c.buf i).pc = e0.pc := by rw [he0]
    have hset : List.set (rowsOn c.buf) i.toNat (splice (rowAt (rowsOn c.buf) i.toNat) 5 [D.bool true]) = rowsOn (c.buf.set i.toNat e0) := by
      rw [he0]
      have e1 : c.buf = c.buf.set i.toNat (rd c.buf i) := by
        have h3 := rd_lt c.buf i.toNat hi
        rw [Int.toNat_of_nonneg h0] at h3
        rw [h3, List.set_getElem_self]
      have := set_done c.buf i.toNat (rd c.buf i) hi true
      rw [← e1] at this
      exact this
    simp only [hset, get_pc _ _ _ hi, fun e => rd_setE c.buf i e h0 h1, rowsOn_length, List.length_set]
    rw [← he0, hpc]
    have eC : Conf.of [.int .i64 c.st.r0, .int .i64 c.st.r1, .int .i64 c.st.r2, .int .i64 c.st.r3, .sl (rowsOn c.st.mem), .sl (rowsOn c.st.stack), .int .i64 c.st.pc, .sl (rowsOn (c.buf.set i.toNat e0)), .sl (rowsOn c.rsb), .int .i64 c.fin] = ⟨c.st, c.buf.set i.toNat e0, c.rsb, c.fin⟩ := by simp [Conf.of]
    simp only [eC, listOf_rowsOn, ins_eta]
    have hrow : (rowAt (rowsOn c.buf) i.toNat).length = 8 := (ent_ok c.buf i h0 h1).2.2
    refine ⟨⟨okE c.buf, rfl, by omega⟩, ⟨h0, h1⟩, ⟨hi, hrow, by decide⟩, ⟨hi, by rw [rowAt_set _ _ e0 hi]; rfl, by rw [rowAt_set _ _ e0 hi]; rfl⟩, PreOk.mk trivial rfl, all_holds fun x hx => ⟨PreOk.mk (by show (c.buf.set i.toNat e0).length ≤ 1000000; rw [List.length_set]; omega) rfl, all_holds fun t ht => ?_⟩⟩
    replace hx : x = atS p.ins e0.pc := hx
    replace ht : t = toldC p c i x := Eq.trans ht (told_ent p c i e0 x h0)
    rw [← hx, ← ht]
    exact at_do p c x i t.1 t.2.1 t.2.2.1 t.2.2.2.1 t.2.2.2.2 e0 h0 h1 hl hs
  · rw [if_pos (by rw [h])]
    exact ret_leD (RR.le_refl _)
noncomputable def v_r9Do : Prg × Conf × Int → Conf × List Obs × Bool := fun x => r9doS x.1 x.2.1 x.2.2
noncomputable def sh_r9Do : Conf × List Obs × Bool → RR := fun x => rdo x
theorem e_r9Do (x : Prg × Conf × Int) : sh_r9Do (v_r9Do x) = c_r9Do.ans x := rfl
end Go.Proofs.Ytmhfhobaicklmaa.Ax
end
