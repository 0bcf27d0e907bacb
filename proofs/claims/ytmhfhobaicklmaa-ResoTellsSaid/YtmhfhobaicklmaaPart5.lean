/- Several texts in one, in their order. -/
import Derived.Test.YtmhfhobaicklmaaPart4
import Derived.Shelf.Strings.Search1
import Derived.Shelf.Strings.Search2
import Derived.Shelf.Strings.Search3
import Derived.Shelf.LaysM
import Derived.Shelf.Strings.Shaped
import Derived.Test.YtmhfhobaicklmaaProg
section
/- The machine that guesses, by the document: a load that was passed wrongly, a store's address, committing. -/
namespace Go.Proofs.Ytmhfhobaicklmaa.Ax
open Go.RowKit
set_option linter.unusedVariables false
set_option linter.unusedSimpArgs false
def hazB (p : Prg) (i addr : Int) (e : Ent) : Bool := ((atS p.ins e.pc).kind == 2) && (e.known && ((e.addr == addr) && decide (e.fro < i)))
def hazF (p : Prg) (l : List Ent) (i addr : Int) : Nat → Nat → Int × Bool
  | 0, _ => (0, false)
  | m + 1, k => if hazB p i addr (rd l (k : Int)) = true then ((k : Int), true) else hazF p l i addr m (k + 1)
def haz0 (l : List Ent) (i : Int) : Nat := (min (max i (-1)) l.length + 1).toNat
def hazS (p : Prg) (l : List Ent) (i addr : Int) : Int × Bool := hazF p l i addr (l.length - haz0 l i) (haz0 l i)
def rdHaz : List A → Prg × List Ent × Int × Int
  | [.agg q, .c (.sl l), .c (.int _ i), .c (.int _ a)] => (Prg.of q, listOf Ent l, i, a)
  | _ => default
def c_r9Haz : FT (Prg × List Ent × Int × Int) := ⟨107, fun x => [ap x.1, aE x.2.1, ai x.2.2.1, ai x.2.2.2], rdHaz, fun x => x.2.1.length ≤ 1000000, fun x => rib (hazS x.1 x.2.1 x.2.2.1 x.2.2.2), false, fun x => by simp [ap, aE, ai, rdHaz]⟩
noncomputable def a_r9Haz : FnA := (fnA Try.prog Try.f107 4 [(2, [1, 2, 3, 4, 10])]).getD ⟨0, .skip, [], []⟩
noncomputable def s_r9Haz : Sp := spT [c_rAt.gfe v_rAt sh_rAt e_rAt]
theorem s_r9Haz_sound : s_r9Haz.sound Try.prog := spT_sound fun e he => by
  simp only [List.mem_cons, List.not_mem_nil, or_false] at he
  rcases he with rfl
  · exact FT.gfe_good c_rAt_good
def F_hz (p : Prg) (l : List Ent) (i a k : Int) : St := ⟨mkS 58 [(1, vr (rowsOn l)), (2, vi i), (3, vi a), (4, vp 256), (10, vi k)], [(256, bx p.cells)]⟩
set_option maxRecDepth 100000 in
theorem t_r9Haz (p : Prg) (l : List Ent) (i a : Int) : a_r9Haz.start s_r9Haz 400 [ap p, aE l, ai i, ai a] =
(FnA.at_ a_r9Haz 0 (F_hz p l i a (IntKind.wrap IntKind.i64 (min (max i (-1 : Int)) (↑(List.length (rowsOn l)) : Int) + (1 : Int))))) := by kernel_rfl
set_option maxRecDepth 100000 in
theorem t_r9h0 (p : Prg) (l : List Ent) (i a k : Int) : a_r9Haz.round s_r9Haz 400 0 (F_hz p l i a k) =
(VC.br (decide (k < (↑(List.length (rowsOn l)) : Int)))
 (VC.need ((0 : Int) ≤ k ∧ k < (↑(List.length (rowsOn l)) : Int) ∧ List.length (rowAt (rowsOn l) (Int.toNat k)) = (8 : Nat))
 (VC.need (okSh [Kd.int IntKind.i64] (List.drop (0 : Nat) (rowAt (rowsOn l) (Int.toNat k))))
 (VC.need (PreOk c_rAt (Prg.of (Prg.cells p), asInt (List.getD (List.drop (0 : Nat) (rowAt (rowsOn l) (Int.toNat k))) (0 : Nat) D.nilp)) [A.agg (Prg.cells p), A.c (D.int IntKind.i64 (asInt (List.getD (List.drop (0 : Nat) (rowAt (rowsOn l) (Int.toNat k))) (0 : Nat) D.nilp)))])
 (VC.all (v_rAt (Prg.of (Prg.cells p), asInt (List.getD (List.drop (0 : Nat) (rowAt (rowsOn l) (Int.toNat k))) (0 : Nat) D.nilp))) fun (y5 : Ins) =>
 (VC.br (y5.kind == (2 : Int))
  (VC.need ((0 : Int) ≤ k ∧ k < (↑(List.length (rowsOn l)) : Int) ∧ List.length (rowAt (rowsOn l) (Int.toNat k)) = (8 : Nat))
  (VC.need (okSh [Kd.bool] (List.drop (6 : Nat) (rowAt (rowsOn l) (Int.toNat k))))
  (VC.br (asBool (List.getD (List.drop (6 : Nat) (rowAt (rowsOn l) (Int.toNat k))) (0 : Nat) D.nilp))
   (VC.need ((0 : Int) ≤ k ∧ k < (↑(List.length (rowsOn l)) : Int) ∧ List.length (rowAt (rowsOn l) (Int.toNat k)) = (8 : Nat))
   (VC.need (okSh [Kd.int IntKind.i64] (List.drop (2 : Nat) (rowAt (rowsOn l) (Int.toNat k))))
   (VC.br (asInt (List.getD (List.drop (2 : Nat) (rowAt (rowsOn l) (Int.toNat k))) (0 : Nat) D.nilp) == a)
    (VC.need ((0 : Int) ≤ k ∧ k < (↑(List.length (rowsOn l)) : Int) ∧ List.length (rowAt (rowsOn l) (Int.toNat k)) = (8 : Nat))
    (VC.need (okSh [Kd.int IntKind.i64] (List.drop (3 : Nat) (rowAt (rowsOn l) (Int.toNat k))))
    (VC.br (decide (asInt (List.getD (List.drop (3 : Nat) (rowAt (rowsOn l) (Int.toNat k))) (0 : Nat) D.nilp) < i))
     (VC.ret (some (RR.tup [Sum.inl (Rc.d (D.int IntKind.i64 k)), Sum.inl (Rc.d (D.bool true))])))
     (FnA.at_ a_r9Haz 0 (F_hz p l i a (IntKind.wrap IntKind.i64 (k + (1 : Int))))))))
    (FnA.at_ a_r9Haz 0 (F_hz p l i a (IntKind.wrap IntKind.i64 (k + (1 : Int))))))))
   (FnA.at_ a_r9Haz 0 (F_hz p l i a (IntKind.wrap IntKind.i64 (k + (1 : Int))))))))
  (FnA.at_ a_r9Haz 0 (F_hz p l i a (IntKind.wrap IntKind.i64 (k + (1 : Int))))))))))
 (VC.ret (some (RR.tup [Sum.inl (Rc.d (D.int IntKind.i64 (0 : Int))), Sum.inl (Rc.d (D.bool false))])))) := by kernel_rfl
theorem haz_step (p : Prg) (l : List Ent) (i a : Int) (k : Int) (h0 : 0 ≤ k) (h1 : k < l.length) : hazF p l i a (l.length - k.toNat) k.toNat = if hazB p i a (rd l k) = true then (k, true) else hazF p l i a (l.length - (k + 1).toNat) (k + 1).toNat := by
  obtain ⟨m, hm⟩ : ∃ m, l.length - k.toNat = m + 1 := ⟨l.length - k.toNat - 1, by omega⟩
  rw [hm]
  show (if hazB p i a (rd l ((k.toNat : Nat) : Int)) = true then (((k.toNat : Nat) : Int), true) else hazF p l i a m (k.toNat + 1)) = _
  rw [Int.toNat_of_nonneg h0, show (k + 1).toNat = k.toNat + 1 by omega, show l.length - (k.toNat + 1) = m by omega]
theorem l_r9h0 (p : Prg) (l : List Ent) (i a : Int) (fin : Int × Bool) (hl : l.length ≤ 1000000) : ∀ i_ : Int, (fun (k : Int) => 0 ≤ k ∧ k ≤ l.length + 1 ∧ hazF p l i a (l.length - k.toNat) k.toNat = fin) i_ → (a_r9Haz.at_ 0 ((fun (k : Int) => F_hz p l i a k) i_)).holds s_r9Haz.cx a_r9Haz.rs (fun r => r.le (rib fin)) := by
  refine loop_rule (a := a_r9Haz) (j := 0) (m := 400) s_r9Haz_sound (fun (k : Int) => F_hz p l i a k) (fun (k : Int) => 0 ≤ k ∧ k ≤ l.length + 1 ∧ hazF p l i a (l.length - k.toNat) k.toNat = fin) (fun (k : Int) => ((l.length : Int) + 1 - k).toNat) ?_
  rintro k h_inv ih
  try dsimp only at h_inv
  show VC.holds _ _ _ (a_r9Haz.round s_r9Haz 400 0 (F_hz p l i a k))
  rw [t_r9h0]
  try simp only [asRows_sl, asInt_int, asBool_bool, asStr_str, listOf_rowsOn, List.drop_zero, Prg.eta, Sta.eta, rowsOn_length, getD_drop, Nat.reduceAdd, rd_int, rd_PMem_name, rd_PMem_secret, rd_PMem_n, rd_PLabel_name, rd_PLabel_at_, rd_Ins_kind, rd_Ins_op, rd_Ins_d, rd_Ins_aR, rd_Ins_aN, rd_Ins_bR, rd_Ins_bN, rd_Ins_name, rd_Ins_target, rd_Ent_pc, rd_Ent_val, rd_Ent_addr, rd_Ent_fro, rd_Ent_next, rd_Ent_done, rd_Ent_known, rd_Ent_fault, rd_Place_reg, rd_Place_n, rd_Place_secret, rd_Obs_kind, rd_Obs_at_, rd_Dir_kind, rd_Dir_n, Prg.of_cells, Sta.of_cells]
  obtain ⟨h0, h1, h2⟩ := h_inv
  have w1 : IntKind.wrap .i64 (k + 1) = k + 1 := wrap_small _ (by omega) (by omega)
  simp only [w1]
  refine br_dec (fun hd => ?_) (fun hd => ?_)
  · rw [haz_step p l i a k h0 hd] at h2
    have g := ent_ok l k h0 hd
    have sh : ∀ {j : Nat} {s : List Kd}, (∀ e : Ent, okSh s ((row e).drop j)) → okSh s (List.drop j (rowAt (rowsOn l) k.toNat)) := fun {j s} hs => okSh_okD s j l k hs h0 hd
    have nxt : ¬ hazB p i a (rd l k) = true → (a_r9Haz.at_ 0 (F_hz p l i a (k + 1))).holds s_r9Haz.cx a_r9Haz.rs fun r => r.le (rib fin) := fun hn => by
      rw [if_neg hn] at h2
      exact ih _ ⟨by omega, by omega, h2⟩ (by omega)
    refine ⟨g, okSh_ok _ l k (fun _ => rfl) h0 hd, PreOk.mk trivial rfl, all_holds fun y hy => br_beq (fun h3 => ⟨g, sh (fun _ => rfl), br_holds (fun h4 => ⟨g, sh (fun _ => rfl), br_beq (fun h5 => ⟨g, sh (fun _ => rfl), br_dec (fun h6 => ?_) (fun h6 => nxt ?_)⟩) (fun h5 => nxt ?_)⟩) (fun h4 => nxt ?_)⟩) (fun h3 => nxt ?_)⟩
    all_goals replace hy : y = atS p.ins (rd l k).pc := hy
    · have hb : hazB p i a (rd l k) = true := by unfold hazB; rw [← hy, h3, h4, h5]; simp; exact h6
      rw [if_pos hb] at h2
      rw [← h2]; exact ret_le (RR.le_refl _)
    · unfold hazB; simp; intros; omega
    · unfold hazB; simp; intro _ _ q; exact absurd q h5
    · unfold hazB; rw [h4]; simp
    · unfold hazB; rw [← hy]; simp; intro q; exact absurd q h3
  · rw [show l.length - k.toNat = 0 by omega] at h2
    have h2 : ((0 : Int), false) = fin := h2
    rw [← h2]; exact ret_le (RR.le_refl _)
theorem c_r9Haz_good : c_r9Haz.fe.Good Try.prog := by
  refine FT.good c_r9Haz ⟨Try.f107, by kernel_rfl, by decide +kernel, by kernel_rfl⟩ (fun ⟨p, l, i, a⟩ => by first | rfl | simp [c_r9Haz, rrRef, rdo, rConfB, riiibb, rreal, riib, rE, rrun, rstep, rins, rnum, rby, rss, rnewI, rnewE, rstab, rplaces, ri, rb, rib, Sta.fresh]) fun ⟨p, l, i, a⟩ hp => ?_
  refine acalls_le s_r9Haz_sound (fn := Try.f107) (a := a_r9Haz) (nargs := 4) (tbl := [(2, [1, 2, 3, 4, 10])]) (by kernel_rfl) (by kernel_rfl) rfl (m := 400) ?_
  show VC.holds _ _ _ (a_r9Haz.start s_r9Haz 400 [ap p, aE l, ai i, ai a])
  rw [t_r9Haz]
  try simp only [asRows_sl, asInt_int, asBool_bool, asStr_str, listOf_rowsOn, List.drop_zero, Prg.eta, Sta.eta, rowsOn_length, getD_drop, Nat.reduceAdd, rd_int, rd_PMem_name, rd_PMem_secret, rd_PMem_n, rd_PLabel_name, rd_PLabel_at_, rd_Ins_kind, rd_Ins_op, rd_Ins_d, rd_Ins_aR, rd_Ins_aN, rd_Ins_bR, rd_Ins_bN, rd_Ins_name, rd_Ins_target, rd_Ent_pc, rd_Ent_val, rd_Ent_addr, rd_Ent_fro, rd_Ent_next, rd_Ent_done, rd_Ent_known, rd_Ent_fault, rd_Place_reg, rd_Place_n, rd_Place_secret, rd_Obs_kind, rd_Obs_at_, rd_Dir_kind, rd_Dir_n, Prg.of_cells, Sta.of_cells]
  try simp only [c_r9Haz] at hp
  have hl : l.length ≤ 1000000 := hp
  rw [wrap_small (min (max i (-1)) (l.length : Int) + 1) (by omega) (by omega)]
  exact l_r9h0 p l i a (hazS p l i a) hl _ ⟨by omega, by omega, rfl⟩
noncomputable def v_r9Haz : Prg × List Ent × Int × Int → Int × Bool := fun x => hazS x.1 x.2.1 x.2.2.1 x.2.2.2
noncomputable def sh_r9Haz : Int × Bool → RR := fun y => rib y
theorem e_r9Haz (x : Prg × List Ent × Int × Int) : sh_r9Haz (v_r9Haz x) = c_r9Haz.ans x := rfl
noncomputable def a_r9Addr : FnA := (fnA Try.prog Try.f84 3 [(1000000015, [2, 3, 4, 6, 9, 15])]).getD ⟨0, .skip, [], []⟩
noncomputable def s_r9Addr : Sp := spT [c_r9CanA.gfe v_r9CanA sh_r9CanA e_r9CanA, c_rAt.gfe v_rAt sh_rAt e_rAt, c_r9Told.gfe v_r9Told sh_r9Told e_r9Told, c_rMask.gfe v_rMask sh_rMask e_rMask, c_r9Haz.gfe v_r9Haz sh_r9Haz e_r9Haz]
theorem s_r9Addr_sound : s_r9Addr.sound Try.prog := spT_sound fun e he => by
  simp only [List.mem_cons, List.not_mem_nil, or_false] at he
  rcases he with rfl | rfl | rfl | rfl | rfl
  · exact FT.gfe_good c_r9CanA_good
  · exact FT.gfe_good c_rAt_good
  · exact FT.gfe_good c_r9Told_good
  · exact FT.gfe_good c_rMask_good
  · exact FT.gfe_good c_r9Haz_good
def F_ad (p : Prg) (c : Conf) (n : Nat) (R : List (List D)) (i y : Int) : St := ⟨mkS 102 [(2, vi i), (3, vp 192), (4, vp 256), (6, vp 384), (9, .c (.aptr 1728 1 i.toNat 0)), (15, vi y)], [(192, bx p.cells), (256, bc [.d (.int .i64 c.st.r0), .d (.int .i64 c.st.r1), .d (.int .i64 c.st.r2), .d (.int .i64 c.st.r3), .d (.sl (rowsOn c.st.mem)), .d (.sl (rowsOn c.st.stack)), .d (.int .i64 c.st.pc), .own 1728 1 n, .d (.sl (rowsOn c.rsb)), .d (.int .i64 c.fin)]), (384, bc [.d (.int .i64 0), .d (.int .i64 0), .d (.int .i64 0), .d (.int .i64 0), .nil, .nil, .d (.int .i64 0), .nil, .nil, .d (.int .i64 0)]), (1728, ba 8 R)]⟩
set_option maxRecDepth 100000 in
theorem t_r9Addr (p : Prg) (c : Conf) (i : Int) : a_r9Addr.start s_r9Addr 400 [ap p, aC c, ai i] =
(VC.need (PreOk c_r9CanA (Prg.of (Prg.cells p), Conf.of [D.int IntKind.i64 c.st.r0, D.int IntKind.i64 c.st.r1, D.int IntKind.i64 c.st.r2, D.int IntKind.i64 c.st.r3, D.sl (rowsOn c.st.mem), D.sl (rowsOn c.st.stack), D.int IntKind.i64 c.st.pc, D.sl (rowsOn c.buf), D.sl (rowsOn c.rsb), D.int IntKind.i64 c.fin], i) [A.agg (Prg.cells p), A.agg [D.int IntKind.i64 c.st.r0, D.int IntKind.i64 c.st.r1, D.int IntKind.i64 c.st.r2, D.int IntKind.i64 c.st.r3, D.sl (rowsOn c.st.mem), D.sl (rowsOn c.st.stack), D.int IntKind.i64 c.st.pc, D.sl (rowsOn c.buf), D.sl (rowsOn c.rsb), D.int IntKind.i64 c.fin], A.c (D.int IntKind.i64 i)])
(VC.all (v_r9CanA (Prg.of (Prg.cells p), Conf.of [D.int IntKind.i64 c.st.r0, D.int IntKind.i64 c.st.r1, D.int IntKind.i64 c.st.r2, D.int IntKind.i64 c.st.r3, D.sl (rowsOn c.st.mem), D.sl (rowsOn c.st.stack), D.int IntKind.i64 c.st.pc, D.sl (rowsOn c.buf), D.sl (rowsOn c.rsb), D.int IntKind.i64 c.fin], i)) fun (y3 : Bool) =>
(VC.br (!y3)
 (VC.ret (some (RR.tup [Sum.inr [Rc.d (D.int IntKind.i64 (0 : Int)), Rc.d (D.int IntKind.i64 (0 : Int)), Rc.d (D.int IntKind.i64 (0 : Int)), Rc.d (D.int IntKind.i64 (0 : Int)), Rc.nil, Rc.nil, Rc.d (D.int IntKind.i64 (0 : Int)), Rc.nil, Rc.nil, Rc.d (D.int IntKind.i64 (0 : Int))], Sum.inl Rc.nil, Sum.inl (Rc.d (D.bool false))])))
 (VC.need ((List.all (rowsOn c.buf) fun r ↦ List.length r == (8 : Nat)) = true ∧ (List.all ([] : List (List D)) fun r ↦ List.length r == (8 : Nat)) = true ∧ ((0 : Nat) + List.length (rowsOn c.buf) + (100 : Nat)) * (49 : Nat) ≤ (70368744177664 : Nat))
 (VC.need ((0 : Int) ≤ i ∧ i < (↑((0 : Nat) + List.length (rowsOn c.buf)) : Int))
 (VC.need (Int.toNat i < List.length ([] ++ rowsOn c.buf) ∧ List.length (rowAt ([] ++ rowsOn c.buf) (Int.toNat i)) = (8 : Nat) ∧ okSh [Kd.int IntKind.i64] (List.drop (0 : Nat) (rowAt ([] ++ rowsOn c.buf) (Int.toNat i))))
 (VC.need (PreOk c_rAt (Prg.of (Prg.cells p), asInt (List.getD (List.drop (0 : Nat) (rowAt ([] ++ rowsOn c.buf) (Int.toNat i))) (0 : Nat) D.nilp)) [A.agg (Prg.cells p), A.c (D.int IntKind.i64 (asInt (List.getD (List.drop (0 : Nat) (rowAt ([] ++ rowsOn c.buf) (Int.toNat i))) (0 : Nat) D.nilp)))])
 (VC.all (v_rAt (Prg.of (Prg.cells p), asInt (List.getD (List.drop (0 : Nat) (rowAt ([] ++ rowsOn c.buf) (Int.toNat i))) (0 : Nat) D.nilp))) fun (y4 : Ins) =>
 (VC.need (PreOk c_r9Told (Prg.of (Prg.cells p), Conf.of [D.int IntKind.i64 c.st.r0, D.int IntKind.i64 c.st.r1, D.int IntKind.i64 c.st.r2, D.int IntKind.i64 c.st.r3, D.sl (rowsOn c.st.mem), D.sl (rowsOn c.st.stack), D.int IntKind.i64 c.st.pc, D.sl ([] ++ rowsOn c.buf), D.sl (rowsOn c.rsb), D.int IntKind.i64 c.fin], i, Row.of [D.int IntKind.i64 y4.kind, D.int IntKind.i64 y4.op, D.int IntKind.i64 y4.d, D.bool y4.aR, D.int IntKind.i64 y4.aN, D.bool y4.bR, D.int IntKind.i64 y4.bN, D.str y4.name, D.int IntKind.i64 y4.target]) [A.agg (Prg.cells p), A.agg [D.int IntKind.i64 c.st.r0, D.int IntKind.i64 c.st.r1, D.int IntKind.i64 c.st.r2, D.int IntKind.i64 c.st.r3, D.sl (rowsOn c.st.mem), D.sl (rowsOn c.st.stack), D.int IntKind.i64 c.st.pc, D.sl ([] ++ rowsOn c.buf), D.sl (rowsOn c.rsb), D.int IntKind.i64 c.fin], A.c (D.int IntKind.i64 i), A.agg [D.int IntKind.i64 y4.kind, D.int IntKind.i64 y4.op, D.int IntKind.i64 y4.d, D.bool y4.aR, D.int IntKind.i64 y4.aN, D.bool y4.bR, D.int IntKind.i64 y4.bN, D.str y4.name, D.int IntKind.i64 y4.target]])
 (VC.all (((valS2 (Prg.of (Prg.cells p)) (Conf.regs (Conf.of [D.int IntKind.i64 c.st.r0, D.int IntKind.i64 c.st.r1, D.int IntKind.i64 c.st.r2, D.int IntKind.i64 c.st.r3, D.sl (rowsOn c.st.mem), D.sl (rowsOn c.st.stack), D.int IntKind.i64 c.st.pc, D.sl ([] ++ rowsOn c.buf), D.sl (rowsOn c.rsb), D.int IntKind.i64 c.fin])) (listOf Ent ([] ++ rowsOn c.buf)) i (asBool (List.getD [D.int IntKind.i64 y4.kind, D.int IntKind.i64 y4.op, D.int IntKind.i64 y4.d, D.bool y4.aR, D.int IntKind.i64 y4.aN, D.bool y4.bR, D.int IntKind.i64 y4.bN, D.str y4.name, D.int IntKind.i64 y4.target] (3 : Nat) D.nilp)) (asInt (List.getD [D.int IntKind.i64 y4.kind, D.int IntKind.i64 y4.op, D.int IntKind.i64 y4.d, D.bool y4.aR, D.int IntKind.i64 y4.aN, D.bool y4.bR, D.int IntKind.i64 y4.bN, D.str y4.name, D.int IntKind.i64 y4.target] (4 : Nat) D.nilp))).fst, (valS2 (Prg.of (Prg.cells p)) (Conf.regs (Conf.of [D.int IntKind.i64 c.st.r0, D.int IntKind.i64 c.st.r1, D.int IntKind.i64 c.st.r2, D.int IntKind.i64 c.st.r3, D.sl (rowsOn c.st.mem), D.sl (rowsOn c.st.stack), D.int IntKind.i64 c.st.pc, D.sl ([] ++ rowsOn c.buf), D.sl (rowsOn c.rsb), D.int IntKind.i64 c.fin])) (listOf Ent ([] ++ rowsOn c.buf)) i (asBool (List.getD [D.int IntKind.i64 y4.kind, D.int IntKind.i64 y4.op, D.int IntKind.i64 y4.d, D.bool y4.aR, D.int IntKind.i64 y4.aN, D.bool y4.bR, D.int IntKind.i64 y4.bN, D.str y4.name, D.int IntKind.i64 y4.target] (5 : Nat) D.nilp)) (asInt (List.getD [D.int IntKind.i64 y4.kind, D.int IntKind.i64 y4.op, D.int IntKind.i64 y4.d, D.bool y4.aR, D.int IntKind.i64 y4.aN, D.bool y4.bR, D.int IntKind.i64 y4.bN, D.str y4.name, D.int IntKind.i64 y4.target] (6 : Nat) D.nilp))).fst, (regS (Prg.of (Prg.cells p)) (Conf.regs (Conf.of [D.int IntKind.i64 c.st.r0, D.int IntKind.i64 c.st.r1, D.int IntKind.i64 c.st.r2, D.int IntKind.i64 c.st.r3, D.sl (rowsOn c.st.mem), D.sl (rowsOn c.st.stack), D.int IntKind.i64 c.st.pc, D.sl ([] ++ rowsOn c.buf), D.sl (rowsOn c.rsb), D.int IntKind.i64 c.fin])) (listOf Ent ([] ++ rowsOn c.buf)) i (asInt (List.getD [D.int IntKind.i64 y4.kind, D.int IntKind.i64 y4.op, D.int IntKind.i64 y4.d, D.bool y4.aR, D.int IntKind.i64 y4.aN, D.bool y4.bR, D.int IntKind.i64 y4.bN, D.str y4.name, D.int IntKind.i64 y4.target] (2 : Nat) D.nilp))).fst, (valS2 (Prg.of (Prg.cells p)) (Conf.regs (Conf.of [D.int IntKind.i64 c.st.r0, D.int IntKind.i64 c.st.r1, D.int IntKind.i64 c.st.r2, D.int IntKind.i64 c.st.r3, D.sl (rowsOn c.st.mem), D.sl (rowsOn c.st.stack), D.int IntKind.i64 c.st.pc, D.sl ([] ++ rowsOn c.buf), D.sl (rowsOn c.rsb), D.int IntKind.i64 c.fin])) (listOf Ent ([] ++ rowsOn c.buf)) i (asBool (List.getD [D.int IntKind.i64 y4.kind, D.int IntKind.i64 y4.op, D.int IntKind.i64 y4.d, D.bool y4.aR, D.int IntKind.i64 y4.aN, D.bool y4.bR, D.int IntKind.i64 y4.bN, D.str y4.name, D.int IntKind.i64 y4.target] (3 : Nat) D.nilp)) (asInt (List.getD [D.int IntKind.i64 y4.kind, D.int IntKind.i64 y4.op, D.int IntKind.i64 y4.d, D.bool y4.aR, D.int IntKind.i64 y4.aN, D.bool y4.bR, D.int IntKind.i64 y4.bN, D.str y4.name, D.int IntKind.i64 y4.target] (4 : Nat) D.nilp))).snd && (valS2 (Prg.of (Prg.cells p)) (Conf.regs (Conf.of [D.int IntKind.i64 c.st.r0, D.int IntKind.i64 c.st.r1, D.int IntKind.i64 c.st.r2, D.int IntKind.i64 c.st.r3, D.sl (rowsOn c.st.mem), D.sl (rowsOn c.st.stack), D.int IntKind.i64 c.st.pc, D.sl ([] ++ rowsOn c.buf), D.sl (rowsOn c.rsb), D.int IntKind.i64 c.fin])) (listOf Ent ([] ++ rowsOn c.buf)) i (asBool (List.getD [D.int IntKind.i64 y4.kind, D.int IntKind.i64 y4.op, D.int IntKind.i64 y4.d, D.bool y4.aR, D.int IntKind.i64 y4.aN, D.bool y4.bR, D.int IntKind.i64 y4.bN, D.str y4.name, D.int IntKind.i64 y4.target] (5 : Nat) D.nilp)) (asInt (List.getD [D.int IntKind.i64 y4.kind, D.int IntKind.i64 y4.op, D.int IntKind.i64 y4.d, D.bool y4.aR, D.int IntKind.i64 y4.aN, D.bool y4.bR, D.int IntKind.i64 y4.bN, D.str y4.name, D.int IntKind.i64 y4.target] (6 : Nat) D.nilp))).snd, (regS (Prg.of (Prg.cells p)) (Conf.regs (Conf.of [D.int IntKind.i64 c.st.r0, D.int IntKind.i64 c.st.r1, D.int IntKind.i64 c.st.r2, D.int IntKind.i64 c.st.r3, D.sl (rowsOn c.st.mem), D.sl (rowsOn c.st.stack), D.int IntKind.i64 c.st.pc, D.sl ([] ++ rowsOn c.buf), D.sl (rowsOn c.rsb), D.int IntKind.i64 c.fin])) (listOf Ent ([] ++ rowsOn c.buf)) i (asInt (List.getD [D.int IntKind.i64 y4.kind, D.int IntKind.i64 y4.op, D.int IntKind.i64 y4.d, D.bool y4.aR, D.int IntKind.i64 y4.aN, D.bool y4.bR, D.int IntKind.i64 y4.bN, D.str y4.name, D.int IntKind.i64 y4.target] (2 : Nat) D.nilp))).snd)) fun (y5 : Int × Int × Int × Bool × Bool) =>
 (VC.need (PreOk c_rMask (p.w, IntKind.wrap IntKind.i64 (y5.fst + y5.snd.fst)) [A.c (D.int IntKind.i64 p.w), A.c (D.int IntKind.i64 (IntKind.wrap IntKind.i64 (y5.fst + y5.snd.fst)))])
 (VC.all (v_rMask (p.w, IntKind.wrap IntKind.i64 (y5.fst + y5.snd.fst))) fun (y6 : Int) =>
 (VC.need (Int.toNat i < List.length ([] ++ rowsOn c.buf) ∧ List.length (rowAt ([] ++ rowsOn c.buf) (Int.toNat i)) = (8 : Nat) ∧ (3 : Nat) ≤ (8 : Nat))
 (VC.need (Int.toNat i < List.length (List.set ([] ++ rowsOn c.buf) (Int.toNat i) (splice (rowAt ([] ++ rowsOn c.buf) (Int.toNat i)) (2 : Nat) [D.int IntKind.i64 y6])) ∧ List.length (rowAt (List.set ([] ++ rowsOn c.buf) (Int.toNat i) (splice (rowAt ([] ++ rowsOn c.buf) (Int.toNat i)) (2 : Nat) [D.int IntKind.i64 y6])) (Int.toNat i)) = (8 : Nat) ∧ (7 : Nat) ≤ (8 : Nat))
 (VC.need (Int.toNat i < List.length (List.set (List.set ([] ++ rowsOn c.buf) (Int.toNat i) (splice (rowAt ([] ++ rowsOn c.buf) (Int.toNat i)) (2 : Nat) [D.int IntKind.i64 y6])) (Int.toNat i) (splice (rowAt (List.set ([] ++ rowsOn c.buf) (Int.toNat i) (splice (rowAt ([] ++ rowsOn c.buf) (Int.toNat i)) (2 : Nat) [D.int IntKind.i64 y6])) (Int.toNat i)) (6 : Nat) [D.bool true])) ∧ List.length (rowAt (List.set (List.set ([] ++ rowsOn c.buf) (Int.toNat i) (splice (rowAt ([] ++ rowsOn c.buf) (Int.toNat i)) (2 : Nat) [D.int IntKind.i64 y6])) (Int.toNat i) (splice (rowAt (List.set ([] ++ rowsOn c.buf) (Int.toNat i) (splice (rowAt ([] ++ rowsOn c.buf) (Int.toNat i)) (2 : Nat) [D.int IntKind.i64 y6])) (Int.toNat i)) (6 : Nat) [D.bool true])) (Int.toNat i)) = (8 : Nat) ∧ okSh [Kd.int IntKind.i64] (List.drop (2 : Nat) (rowAt (List.set (List.set ([] ++ rowsOn c.buf) (Int.toNat i) (splice (rowAt ([] ++ rowsOn c.buf) (Int.toNat i)) (2 : Nat) [D.int IntKind.i64 y6])) (Int.toNat i) (splice (rowAt (List.set ([] ++ rowsOn c.buf) (Int.toNat i) (splice (rowAt ([] ++ rowsOn c.buf) (Int.toNat i)) (2 : Nat) [D.int IntKind.i64 y6])) (Int.toNat i)) (6 : Nat) [D.bool true])) (Int.toNat i))))
 (FnA.at_ a_r9Addr 0 (F_ad p c ((0 : Nat) + List.length (rowsOn c.buf)) (List.set (List.set ([] ++ rowsOn c.buf) (Int.toNat i) (splice (rowAt ([] ++ rowsOn c.buf) (Int.toNat i)) (2 : Nat) [D.int IntKind.i64 y6])) (Int.toNat i) (splice (rowAt (List.set ([] ++ rowsOn c.buf) (Int.toNat i) (splice (rowAt ([] ++ rowsOn c.buf) (Int.toNat i)) (2 : Nat) [D.int IntKind.i64 y6])) (Int.toNat i)) (6 : Nat) [D.bool true])) i (asInt (List.getD (List.drop (2 : Nat) (rowAt (List.set (List.set ([] ++ rowsOn c.buf) (Int.toNat i) (splice (rowAt ([] ++ rowsOn c.buf) (Int.toNat i)) (2 : Nat) [D.int IntKind.i64 y6])) (Int.toNat i) (splice (rowAt (List.set ([] ++ rowsOn c.buf) (Int.toNat i) (splice (rowAt ([] ++ rowsOn c.buf) (Int.toNat i)) (2 : Nat) [D.int IntKind.i64 y6])) (Int.toNat i)) (6 : Nat) [D.bool true])) (Int.toNat i))) (0 : Nat) D.nilp))))))))))))))))))) := by kernel_rfl
set_option maxRecDepth 100000 in
theorem t_r9a0 (p : Prg) (c : Conf) (n : Nat) (R : List (List D)) (i y : Int) : a_r9Addr.round s_r9Addr 400 0 (F_ad p c n R i y) =
(VC.br (decide ((↑(List.length (rowsOn c.st.mem)) : Int) ≤ y))
 (VC.need (Int.toNat i < List.length R ∧ List.length (rowAt R (Int.toNat i)) = (8 : Nat) ∧ (8 : Nat) ≤ (8 : Nat))
 (VC.ret (some (RR.tup [Sum.inr [Rc.d (D.int IntKind.i64 c.st.r0), Rc.d (D.int IntKind.i64 c.st.r1), Rc.d (D.int IntKind.i64 c.st.r2), Rc.d (D.int IntKind.i64 c.st.r3), Rc.d (D.sl (rowsOn c.st.mem)), Rc.d (D.sl (rowsOn c.st.stack)), Rc.d (D.int IntKind.i64 c.st.pc), Rc.new (8 : Nat) (List.set R (Int.toNat i) (splice (rowAt R (Int.toNat i)) (7 : Nat) [D.bool true])), Rc.d (D.sl (rowsOn c.rsb)), Rc.d (D.int IntKind.i64 c.fin)], Sum.inl Rc.nil, Sum.inl (Rc.d (D.bool true))]))))
 (VC.need (PreOk c_r9Haz (Prg.of (Prg.cells p), listOf Ent R, i, y) [A.agg (Prg.cells p), A.c (D.sl R), A.c (D.int IntKind.i64 i), A.c (D.int IntKind.i64 y)])
 (VC.all (v_r9Haz (Prg.of (Prg.cells p), listOf Ent R, i, y)) fun (y6 : Int × Bool) =>
 (VC.br (y6.snd)
  (VC.need ((0 : Int) ≤ y6.fst ∧ y6.fst < (↑n : Int))
  (VC.need (Int.toNat y6.fst < List.length R ∧ List.length (rowAt R (Int.toNat y6.fst)) = (8 : Nat) ∧ okSh [Kd.int IntKind.i64] (List.drop (0 : Nat) (rowAt R (Int.toNat y6.fst))))
  (VC.need ((0 : Int) ≤ y6.fst ∧ y6.fst ≤ (↑(List.length R) : Int))
  (VC.ret (some (RR.tup [Sum.inr [Rc.d (D.int IntKind.i64 c.st.r0), Rc.d (D.int IntKind.i64 c.st.r1), Rc.d (D.int IntKind.i64 c.st.r2), Rc.d (D.int IntKind.i64 c.st.r3), Rc.d (D.sl (rowsOn c.st.mem)), Rc.d (D.sl (rowsOn c.st.stack)), Rc.d (D.int IntKind.i64 (asInt (List.getD (List.drop (0 : Nat) (rowAt R (Int.toNat y6.fst))) (0 : Nat) D.nilp))), Rc.new (8 : Nat) (List.take (Int.toNat y6.fst) R), Rc.d (D.sl (rowsOn c.rsb)), Rc.d (D.int IntKind.i64 c.fin)], Sum.inl (Rc.new (2 : Nat) [[D.int IntKind.i64 (2 : Int), D.int IntKind.i64 y]]), Sum.inl (Rc.d (D.bool true))]))))))
  (VC.ret (some (RR.tup [Sum.inr [Rc.d (D.int IntKind.i64 c.st.r0), Rc.d (D.int IntKind.i64 c.st.r1), Rc.d (D.int IntKind.i64 c.st.r2), Rc.d (D.int IntKind.i64 c.st.r3), Rc.d (D.sl (rowsOn c.st.mem)), Rc.d (D.sl (rowsOn c.st.stack)), Rc.d (D.int IntKind.i64 c.st.pc), Rc.new (8 : Nat) R, Rc.d (D.sl (rowsOn c.rsb)), Rc.d (D.int IntKind.i64 c.fin)], Sum.inl (Rc.new (2 : Nat) [[D.int IntKind.i64 (2 : Int), D.int IntKind.i64 y]]), Sum.inl (Rc.d (D.bool true))]))))))) := by kernel_rfl
noncomputable def a_r9Ret : FnA := (fnA Try.prog Try.f85 2 []).getD ⟨0, .skip, [], []⟩
noncomputable def s_r9Ret : Sp := spT [c_r9CanR.gfe v_r9CanR sh_r9CanR e_r9CanR, c_rAt.gfe v_rAt sh_rAt e_rAt, c_r9Pop.gfe v_r9Pop sh_r9Pop e_r9Pop]
theorem s_r9Ret_sound : s_r9Ret.sound Try.prog := spT_sound fun e he => by
  simp only [List.mem_cons, List.not_mem_nil, or_false] at he
  rcases he with rfl | rfl | rfl
  · exact FT.gfe_good c_r9CanR_good
  · exact FT.gfe_good c_rAt_good
  · exact FT.gfe_good c_r9Pop_good
set_option maxRecDepth 100000 in
theorem t_r9Ret (p : Prg) (c : Conf) : a_r9Ret.start s_r9Ret 400 [ap p, aC c] =
(VC.need (PreOk c_r9CanR (Prg.of (Prg.cells p), Conf.of [D.int IntKind.i64 c.st.r0, D.int IntKind.i64 c.st.r1, D.int IntKind.i64 c.st.r2, D.int IntKind.i64 c.st.r3, D.sl (rowsOn c.st.mem), D.sl (rowsOn c.st.stack), D.int IntKind.i64 c.st.pc, D.sl (rowsOn c.buf), D.sl (rowsOn c.rsb), D.int IntKind.i64 c.fin]) [A.agg (Prg.cells p), A.agg [D.int IntKind.i64 c.st.r0, D.int IntKind.i64 c.st.r1, D.int IntKind.i64 c.st.r2, D.int IntKind.i64 c.st.r3, D.sl (rowsOn c.st.mem), D.sl (rowsOn c.st.stack), D.int IntKind.i64 c.st.pc, D.sl (rowsOn c.buf), D.sl (rowsOn c.rsb), D.int IntKind.i64 c.fin]])
(VC.all (v_r9CanR (Prg.of (Prg.cells p), Conf.of [D.int IntKind.i64 c.st.r0, D.int IntKind.i64 c.st.r1, D.int IntKind.i64 c.st.r2, D.int IntKind.i64 c.st.r3, D.sl (rowsOn c.st.mem), D.sl (rowsOn c.st.stack), D.int IntKind.i64 c.st.pc, D.sl (rowsOn c.buf), D.sl (rowsOn c.rsb), D.int IntKind.i64 c.fin])) fun (y2 : Bool) =>
(VC.br (!y2)
 (VC.ret (some (RR.tup [Sum.inr [Rc.d (D.int IntKind.i64 (0 : Int)), Rc.d (D.int IntKind.i64 (0 : Int)), Rc.d (D.int IntKind.i64 (0 : Int)), Rc.d (D.int IntKind.i64 (0 : Int)), Rc.nil, Rc.nil, Rc.d (D.int IntKind.i64 (0 : Int)), Rc.nil, Rc.nil, Rc.d (D.int IntKind.i64 (0 : Int))], Sum.inl (Rc.d (D.bool false))])))
 (VC.need ((0 : Int) ≤ (0 : Int) ∧ (0 : Int) < (↑(List.length (rowsOn c.buf)) : Int) ∧ List.length (rowAt (rowsOn c.buf) (0 : Nat)) = (8 : Nat))
 (VC.need (okSh [Kd.int IntKind.i64, Kd.int IntKind.i64, Kd.int IntKind.i64, Kd.int IntKind.i64, Kd.int IntKind.i64, Kd.bool, Kd.bool, Kd.bool] (rowAt (rowsOn c.buf) (0 : Nat)))
 (VC.need (PreOk c_rAt (Prg.of (Prg.cells p), asInt (List.getD (rowAt (rowsOn c.buf) (0 : Nat)) (0 : Nat) D.nilp)) [A.agg (Prg.cells p), A.c (D.int IntKind.i64 (asInt (List.getD (rowAt (rowsOn c.buf) (0 : Nat)) (0 : Nat) D.nilp)))])
 (VC.all (v_rAt (Prg.of (Prg.cells p), asInt (List.getD (rowAt (rowsOn c.buf) (0 : Nat)) (0 : Nat) D.nilp))) fun (y3 : Ins) =>
 (VC.need (PreOk c_r9Pop (c.buf, ()) [A.c (D.sl (rowsOn c.buf))])
 (VC.all (v_r9Pop (listOf Ent (rowsOn c.buf), ())) fun (y4 : List Ent) =>
 (VC.need ((List.all (rowsOn c.st.mem) fun r ↦ List.length r == (1 : Nat)) = true ∧ (List.all ([] : List (List D)) fun r ↦ List.length r == (1 : Nat)) = true ∧ ((0 : Nat) + List.length (rowsOn c.st.mem) + (100 : Nat)) * (9 : Nat) ≤ (70368744177664 : Nat))
 (VC.need ((List.all (rowsOn c.st.stack) fun r ↦ List.length r == (1 : Nat)) = true ∧ (List.all ([] : List (List D)) fun r ↦ List.length r == (1 : Nat)) = true ∧ ((0 : Nat) + List.length (rowsOn c.st.stack) + (100 : Nat)) * (9 : Nat) ≤ (70368744177664 : Nat))
 (VC.br (asBool (List.getD (rowAt (rowsOn c.buf) (0 : Nat)) (7 : Nat) D.nilp))
  (VC.ret (some (RR.tup [Sum.inr [Rc.d (D.int IntKind.i64 c.st.r0), Rc.d (D.int IntKind.i64 c.st.r1), Rc.d (D.int IntKind.i64 c.st.r2), Rc.d (D.int IntKind.i64 c.st.r3), Rc.new (1 : Nat) ([] ++ rowsOn c.st.mem), Rc.new (1 : Nat) ([] ++ rowsOn c.st.stack), Rc.d (D.int IntKind.i64 (asInt (List.getD (rowAt (rowsOn c.buf) (0 : Nat)) (0 : Nat) D.nilp))), Rc.nil, Rc.nil, Rc.d (D.int IntKind.i64 (2 : Int))], Sum.inl (Rc.d (D.bool true))])))
  (VC.br (y3.kind == (12 : Int))
   (VC.ret (some (RR.tup [Sum.inr [Rc.d (D.int IntKind.i64 c.st.r0), Rc.d (D.int IntKind.i64 c.st.r1), Rc.d (D.int IntKind.i64 c.st.r2), Rc.d (D.int IntKind.i64 c.st.r3), Rc.new (1 : Nat) ([] ++ rowsOn c.st.mem), Rc.new (1 : Nat) ([] ++ rowsOn c.st.stack), Rc.d (D.int IntKind.i64 (asInt (List.getD (rowAt (rowsOn c.buf) (0 : Nat)) (0 : Nat) D.nilp))), Rc.nil, Rc.nil, Rc.d (D.int IntKind.i64 (2 : Int))], Sum.inl (Rc.d (D.bool true))])))
   (VC.br (y3.kind == (11 : Int))
    (VC.ret (some (RR.tup [Sum.inr [Rc.d (D.int IntKind.i64 c.st.r0), Rc.d (D.int IntKind.i64 c.st.r1), Rc.d (D.int IntKind.i64 c.st.r2), Rc.d (D.int IntKind.i64 c.st.r3), Rc.new (1 : Nat) ([] ++ rowsOn c.st.mem), Rc.new (1 : Nat) ([] ++ rowsOn c.st.stack), Rc.d (D.int IntKind.i64 (asInt (List.getD (rowAt (rowsOn c.buf) (0 : Nat)) (0 : Nat) D.nilp))), Rc.nil, Rc.nil, Rc.d (D.int IntKind.i64 (1 : Int))], Sum.inl (Rc.d (D.bool true))])))
    (VC.br (y3.kind == (1 : Int))
     (VC.br (decide (bits BinOp.and IntKind.i64 y3.d (3 : Int) = (0 : Int)))
      (VC.br (c.fin != (0 : Int))
       (VC.ret (some (RR.tup [Sum.inr [Rc.d (D.int IntKind.i64 (asInt (List.getD (rowAt (rowsOn c.buf) (0 : Nat)) (1 : Nat) D.nilp))), Rc.d (D.int IntKind.i64 c.st.r1), Rc.d (D.int IntKind.i64 c.st.r2), Rc.d (D.int IntKind.i64 c.st.r3), Rc.new (1 : Nat) ([] ++ rowsOn c.st.mem), Rc.new (1 : Nat) ([] ++ rowsOn c.st.stack), Rc.d (D.int IntKind.i64 (asInt (List.getD (rowAt (rowsOn c.buf) (0 : Nat)) (0 : Nat) D.nilp))), Rc.nil, Rc.nil, Rc.d (D.int IntKind.i64 c.fin)], Sum.inl (Rc.d (D.bool true))])))
       (VC.ret (some (RR.tup [Sum.inr [Rc.d (D.int IntKind.i64 (asInt (List.getD (rowAt (rowsOn c.buf) (0 : Nat)) (1 : Nat) D.nilp))), Rc.d (D.int IntKind.i64 c.st.r1), Rc.d (D.int IntKind.i64 c.st.r2), Rc.d (D.int IntKind.i64 c.st.r3), Rc.new (1 : Nat) ([] ++ rowsOn c.st.mem), Rc.new (1 : Nat) ([] ++ rowsOn c.st.stack), Rc.d (D.int IntKind.i64 c.st.pc), Rc.d (D.sl (rowsOn y4)), Rc.d (D.sl (rowsOn c.rsb)), Rc.d (D.int IntKind.i64 c.fin)], Sum.inl (Rc.d (D.bool true))]))))
      (VC.br (decide (bits BinOp.and IntKind.i64 y3.d (3 : Int) = (1 : Int)))
       (VC.br (c.fin != (0 : Int))
        (VC.ret (some (RR.tup [Sum.inr [Rc.d (D.int IntKind.i64 c.st.r0), Rc.d (D.int IntKind.i64 (asInt (List.getD (rowAt (rowsOn c.buf) (0 : Nat)) (1 : Nat) D.nilp))), Rc.d (D.int IntKind.i64 c.st.r2), Rc.d (D.int IntKind.i64 c.st.r3), Rc.new (1 : Nat) ([] ++ rowsOn c.st.mem), Rc.new (1 : Nat) ([] ++ rowsOn c.st.stack), Rc.d (D.int IntKind.i64 (asInt (List.getD (rowAt (rowsOn c.buf) (0 : Nat)) (0 : Nat) D.nilp))), Rc.nil, Rc.nil, Rc.d (D.int IntKind.i64 c.fin)], Sum.inl (Rc.d (D.bool true))])))
        (VC.ret (some (RR.tup [Sum.inr [Rc.d (D.int IntKind.i64 c.st.r0), Rc.d (D.int IntKind.i64 (asInt (List.getD (rowAt (rowsOn c.buf) (0 : Nat)) (1 : Nat) D.nilp))), Rc.d (D.int IntKind.i64 c.st.r2), Rc.d (D.int IntKind.i64 c.st.r3), Rc.new (1 : Nat) ([] ++ rowsOn c.st.mem), Rc.new (1 : Nat) ([] ++ rowsOn c.st.stack), Rc.d (D.int IntKind.i64 c.st.pc), Rc.d (D.sl (rowsOn y4)), Rc.d (D.sl (rowsOn c.rsb)), Rc.d (D.int IntKind.i64 c.fin)], Sum.inl (Rc.d (D.bool true))]))))
       (VC.br (decide (bits BinOp.and IntKind.i64 y3.d (3 : Int) = (2 : Int)))
        (VC.br (c.fin != (0 : Int))
         (VC.ret (some (RR.tup [Sum.inr [Rc.d (D.int IntKind.i64 c.st.r0), Rc.d (D.int IntKind.i64 c.st.r1), Rc.d (D.int IntKind.i64 (asInt (List.getD (rowAt (rowsOn c.buf) (0 : Nat)) (1 : Nat) D.nilp))), Rc.d (D.int IntKind.i64 c.st.r3), Rc.new (1 : Nat) ([] ++ rowsOn c.st.mem), Rc.new (1 : Nat) ([] ++ rowsOn c.st.stack), Rc.d (D.int IntKind.i64 (asInt (List.getD (rowAt (rowsOn c.buf) (0 : Nat)) (0 : Nat) D.nilp))), Rc.nil, Rc.nil, Rc.d (D.int IntKind.i64 c.fin)], Sum.inl (Rc.d (D.bool true))])))
         (VC.ret (some (RR.tup [Sum.inr [Rc.d (D.int IntKind.i64 c.st.r0), Rc.d (D.int IntKind.i64 c.st.r1), Rc.d (D.int IntKind.i64 (asInt (List.getD (rowAt (rowsOn c.buf) (0 : Nat)) (1 : Nat) D.nilp))), Rc.d (D.int IntKind.i64 c.st.r3), Rc.new (1 : Nat) ([] ++ rowsOn c.st.mem), Rc.new (1 : Nat) ([] ++ rowsOn c.st.stack), Rc.d (D.int IntKind.i64 c.st.pc), Rc.d (D.sl (rowsOn y4)), Rc.d (D.sl (rowsOn c.rsb)), Rc.d (D.int IntKind.i64 c.fin)], Sum.inl (Rc.d (D.bool true))]))))
        (VC.br (decide (bits BinOp.and IntKind.i64 y3.d (3 : Int) = (3 : Int)))
         (VC.br (c.fin != (0 : Int))
          (VC.ret (some (RR.tup [Sum.inr [Rc.d (D.int IntKind.i64 c.st.r0), Rc.d (D.int IntKind.i64 c.st.r1), Rc.d (D.int IntKind.i64 c.st.r2), Rc.d (D.int IntKind.i64 (asInt (List.getD (rowAt (rowsOn c.buf) (0 : Nat)) (1 : Nat) D.nilp))), Rc.new (1 : Nat) ([] ++ rowsOn c.st.mem), Rc.new (1 : Nat) ([] ++ rowsOn c.st.stack), Rc.d (D.int IntKind.i64 (asInt (List.getD (rowAt (rowsOn c.buf) (0 : Nat)) (0 : Nat) D.nilp))), Rc.nil, Rc.nil, Rc.d (D.int IntKind.i64 c.fin)], Sum.inl (Rc.d (D.bool true))])))
          (VC.ret (some (RR.tup [Sum.inr [Rc.d (D.int IntKind.i64 c.st.r0), Rc.d (D.int IntKind.i64 c.st.r1), Rc.d (D.int IntKind.i64 c.st.r2), Rc.d (D.int IntKind.i64 (asInt (List.getD (rowAt (rowsOn c.buf) (0 : Nat)) (1 : Nat) D.nilp))), Rc.new (1 : Nat) ([] ++ rowsOn c.st.mem), Rc.new (1 : Nat) ([] ++ rowsOn c.st.stack), Rc.d (D.int IntKind.i64 c.st.pc), Rc.d (D.sl (rowsOn y4)), Rc.d (D.sl (rowsOn c.rsb)), Rc.d (D.int IntKind.i64 c.fin)], Sum.inl (Rc.d (D.bool true))]))))
         VC.ff))))
     (VC.br (y3.kind == (2 : Int))
      (VC.br (decide (bits BinOp.and IntKind.i64 y3.d (3 : Int) = (0 : Int)))
       (VC.br (c.fin != (0 : Int))
        (VC.ret (some (RR.tup [Sum.inr [Rc.d (D.int IntKind.i64 (asInt (List.getD (rowAt (rowsOn c.buf) (0 : Nat)) (1 : Nat) D.nilp))), Rc.d (D.int IntKind.i64 c.st.r1), Rc.d (D.int IntKind.i64 c.st.r2), Rc.d (D.int IntKind.i64 c.st.r3), Rc.new (1 : Nat) ([] ++ rowsOn c.st.mem), Rc.new (1 : Nat) ([] ++ rowsOn c.st.stack), Rc.d (D.int IntKind.i64 (asInt (List.getD (rowAt (rowsOn c.buf) (0 : Nat)) (0 : Nat) D.nilp))), Rc.nil, Rc.nil, Rc.d (D.int IntKind.i64 c.fin)], Sum.inl (Rc.d (D.bool true))])))
        (VC.ret (some (RR.tup [Sum.inr [Rc.d (D.int IntKind.i64 (asInt (List.getD (rowAt (rowsOn c.buf) (0 : Nat)) (1 : Nat) D.nilp))), Rc.d (D.int IntKind.i64 c.st.r1), Rc.d (D.int IntKind.i64 c.st.r2), Rc.d (D.int IntKind.i64 c.st.r3), Rc.new (1 : Nat) ([] ++ rowsOn c.st.mem), Rc.new (1 : Nat) ([] ++ rowsOn c.st.stack), Rc.d (D.int IntKind.i64 c.st.pc), Rc.d (D.sl (rowsOn y4)), Rc.d (D.sl (rowsOn c.rsb)), Rc.d (D.int IntKind.i64 c.fin)], Sum.inl (Rc.d (D.bool true))]))))
       (VC.br (decide (bits BinOp.and IntKind.i64 y3.d (3 : Int) = (1 : Int)))
        (VC.br (c.fin != (0 : Int))
         (VC.ret (some (RR.tup [Sum.inr [Rc.d (D.int IntKind.i64 c.st.r0), Rc.d (D.int IntKind.i64 (asInt (List.getD (rowAt (rowsOn c.buf) (0 : Nat)) (1 : Nat) D.nilp))), Rc.d (D.int IntKind.i64 c.st.r2), Rc.d (D.int IntKind.i64 c.st.r3), Rc.new (1 : Nat) ([] ++ rowsOn c.st.mem), Rc.new (1 : Nat) ([] ++ rowsOn c.st.stack), Rc.d (D.int IntKind.i64 (asInt (List.getD (rowAt (rowsOn c.buf) (0 : Nat)) (0 : Nat) D.nilp))), Rc.nil, Rc.nil, Rc.d (D.int IntKind.i64 c.fin)], Sum.inl (Rc.d (D.bool true))])))
         (VC.ret (some (RR.tup [Sum.inr [Rc.d (D.int IntKind.i64 c.st.r0), Rc.d (D.int IntKind.i64 (asInt (List.getD (rowAt (rowsOn c.buf) (0 : Nat)) (1 : Nat) D.nilp))), Rc.d (D.int IntKind.i64 c.st.r2), Rc.d (D.int IntKind.i64 c.st.r3), Rc.new (1 : Nat) ([] ++ rowsOn c.st.mem), Rc.new (1 : Nat) ([] ++ rowsOn c.st.stack), Rc.d (D.int IntKind.i64 c.st.pc), Rc.d (D.sl (rowsOn y4)), Rc.d (D.sl (rowsOn c.rsb)), Rc.d (D.int IntKind.i64 c.fin)], Sum.inl (Rc.d (D.bool true))]))))
        (VC.br (decide (bits BinOp.and IntKind.i64 y3.d (3 : Int) = (2 : Int)))
         (VC.br (c.fin != (0 : Int))
          (VC.ret (some (RR.tup [Sum.inr [Rc.d (D.int IntKind.i64 c.st.r0), Rc.d (D.int IntKind.i64 c.st.r1), Rc.d (D.int IntKind.i64 (asInt (List.getD (rowAt (rowsOn c.buf) (0 : Nat)) (1 : Nat) D.nilp))), Rc.d (D.int IntKind.i64 c.st.r3), Rc.new (1 : Nat) ([] ++ rowsOn c.st.mem), Rc.new (1 : Nat) ([] ++ rowsOn c.st.stack), Rc.d (D.int IntKind.i64 (asInt (List.getD (rowAt (rowsOn c.buf) (0 : Nat)) (0 : Nat) D.nilp))), Rc.nil, Rc.nil, Rc.d (D.int IntKind.i64 c.fin)], Sum.inl (Rc.d (D.bool true))])))
          (VC.ret (some (RR.tup [Sum.inr [Rc.d (D.int IntKind.i64 c.st.r0), Rc.d (D.int IntKind.i64 c.st.r1), Rc.d (D.int IntKind.i64 (asInt (List.getD (rowAt (rowsOn c.buf) (0 : Nat)) (1 : Nat) D.nilp))), Rc.d (D.int IntKind.i64 c.st.r3), Rc.new (1 : Nat) ([] ++ rowsOn c.st.mem), Rc.new (1 : Nat) ([] ++ rowsOn c.st.stack), Rc.d (D.int IntKind.i64 c.st.pc), Rc.d (D.sl (rowsOn y4)), Rc.d (D.sl (rowsOn c.rsb)), Rc.d (D.int IntKind.i64 c.fin)], Sum.inl (Rc.d (D.bool true))]))))
         (VC.br (decide (bits BinOp.and IntKind.i64 y3.d (3 : Int) = (3 : Int)))
          (VC.br (c.fin != (0 : Int))
           (VC.ret (some (RR.tup [Sum.inr [Rc.d (D.int IntKind.i64 c.st.r0), Rc.d (D.int IntKind.i64 c.st.r1), Rc.d (D.int IntKind.i64 c.st.r2), Rc.d (D.int IntKind.i64 (asInt (List.getD (rowAt (rowsOn c.buf) (0 : Nat)) (1 : Nat) D.nilp))), Rc.new (1 : Nat) ([] ++ rowsOn c.st.mem), Rc.new (1 : Nat) ([] ++ rowsOn c.st.stack), Rc.d (D.int IntKind.i64 (asInt (List.getD (rowAt (rowsOn c.buf) (0 : Nat)) (0 : Nat) D.nilp))), Rc.nil, Rc.nil, Rc.d (D.int IntKind.i64 c.fin)], Sum.inl (Rc.d (D.bool true))])))
           (VC.ret (some (RR.tup [Sum.inr [Rc.d (D.int IntKind.i64 c.st.r0), Rc.d (D.int IntKind.i64 c.st.r1), Rc.d (D.int IntKind.i64 c.st.r2), Rc.d (D.int IntKind.i64 (asInt (List.getD (rowAt (rowsOn c.buf) (0 : Nat)) (1 : Nat) D.nilp))), Rc.new (1 : Nat) ([] ++ rowsOn c.st.mem), Rc.new (1 : Nat) ([] ++ rowsOn c.st.stack), Rc.d (D.int IntKind.i64 c.st.pc), Rc.d (D.sl (rowsOn y4)), Rc.d (D.sl (rowsOn c.rsb)), Rc.d (D.int IntKind.i64 c.fin)], Sum.inl (Rc.d (D.bool true))]))))
          VC.ff))))
      (VC.br (y3.kind == (4 : Int))
       (VC.br (decide (bits BinOp.and IntKind.i64 y3.d (3 : Int) = (0 : Int)))
        (VC.br (c.fin != (0 : Int))
         (VC.ret (some (RR.tup [Sum.inr [Rc.d (D.int IntKind.i64 (asInt (List.getD (rowAt (rowsOn c.buf) (0 : Nat)) (1 : Nat) D.nilp))), Rc.d (D.int IntKind.i64 c.st.r1), Rc.d (D.int IntKind.i64 c.st.r2), Rc.d (D.int IntKind.i64 c.st.r3), Rc.new (1 : Nat) ([] ++ rowsOn c.st.mem), Rc.new (1 : Nat) ([] ++ rowsOn c.st.stack), Rc.d (D.int IntKind.i64 (asInt (List.getD (rowAt (rowsOn c.buf) (0 : Nat)) (0 : Nat) D.nilp))), Rc.nil, Rc.nil, Rc.d (D.int IntKind.i64 c.fin)], Sum.inl (Rc.d (D.bool true))])))
         (VC.ret (some (RR.tup [Sum.inr [Rc.d (D.int IntKind.i64 (asInt (List.getD (rowAt (rowsOn c.buf) (0 : Nat)) (1 : Nat) D.nilp))), Rc.d (D.int IntKind.i64 c.st.r1), Rc.d (D.int IntKind.i64 c.st.r2), Rc.d (D.int IntKind.i64 c.st.r3), Rc.new (1 : Nat) ([] ++ rowsOn c.st.mem), Rc.new (1 : Nat) ([] ++ rowsOn c.st.stack), Rc.d (D.int IntKind.i64 c.st.pc), Rc.d (D.sl (rowsOn y4)), Rc.d (D.sl (rowsOn c.rsb)), Rc.d (D.int IntKind.i64 c.fin)], Sum.inl (Rc.d (D.bool true))]))))
        (VC.br (decide (bits BinOp.and IntKind.i64 y3.d (3 : Int) = (1 : Int)))
         (VC.br (c.fin != (0 : Int))
          (VC.ret (some (RR.tup [Sum.inr [Rc.d (D.int IntKind.i64 c.st.r0), Rc.d (D.int IntKind.i64 (asInt (List.getD (rowAt (rowsOn c.buf) (0 : Nat)) (1 : Nat) D.nilp))), Rc.d (D.int IntKind.i64 c.st.r2), Rc.d (D.int IntKind.i64 c.st.r3), Rc.new (1 : Nat) ([] ++ rowsOn c.st.mem), Rc.new (1 : Nat) ([] ++ rowsOn c.st.stack), Rc.d (D.int IntKind.i64 (asInt (List.getD (rowAt (rowsOn c.buf) (0 : Nat)) (0 : Nat) D.nilp))), Rc.nil, Rc.nil, Rc.d (D.int IntKind.i64 c.fin)], Sum.inl (Rc.d (D.bool true))])))
          (VC.ret (some (RR.tup [Sum.inr [Rc.d (D.int IntKind.i64 c.st.r0), Rc.d (D.int IntKind.i64 (asInt (List.getD (rowAt (rowsOn c.buf) (0 : Nat)) (1 : Nat) D.nilp))), Rc.d (D.int IntKind.i64 c.st.r2), Rc.d (D.int IntKind.i64 c.st.r3), Rc.new (1 : Nat) ([] ++ rowsOn c.st.mem), Rc.new (1 : Nat) ([] ++ rowsOn c.st.stack), Rc.d (D.int IntKind.i64 c.st.pc), Rc.d (D.sl (rowsOn y4)), Rc.d (D.sl (rowsOn c.rsb)), Rc.d (D.int IntKind.i64 c.fin)], Sum.inl (Rc.d (D.bool true))]))))
         (VC.br (decide (bits BinOp.and IntKind.i64 y3.d (3 : Int) = (2 : Int)))
          (VC.br (c.fin != (0 : Int))
           (VC.ret (some (RR.tup [Sum.inr [Rc.d (D.int IntKind.i64 c.st.r0), Rc.d (D.int IntKind.i64 c.st.r1), Rc.d (D.int IntKind.i64 (asInt (List.getD (rowAt (rowsOn c.buf) (0 : Nat)) (1 : Nat) D.nilp))), Rc.d (D.int IntKind.i64 c.st.r3), Rc.new (1 : Nat) ([] ++ rowsOn c.st.mem), Rc.new (1 : Nat) ([] ++ rowsOn c.st.stack), Rc.d (D.int IntKind.i64 (asInt (List.getD (rowAt (rowsOn c.buf) (0 : Nat)) (0 : Nat) D.nilp))), Rc.nil, Rc.nil, Rc.d (D.int IntKind.i64 c.fin)], Sum.inl (Rc.d (D.bool true))])))
           (VC.ret (some (RR.tup [Sum.inr [Rc.d (D.int IntKind.i64 c.st.r0), Rc.d (D.int IntKind.i64 c.st.r1), Rc.d (D.int IntKind.i64 (asInt (List.getD (rowAt (rowsOn c.buf) (0 : Nat)) (1 : Nat) D.nilp))), Rc.d (D.int IntKind.i64 c.st.r3), Rc.new (1 : Nat) ([] ++ rowsOn c.st.mem), Rc.new (1 : Nat) ([] ++ rowsOn c.st.stack), Rc.d (D.int IntKind.i64 c.st.pc), Rc.d (D.sl (rowsOn y4)), Rc.d (D.sl (rowsOn c.rsb)), Rc.d (D.int IntKind.i64 c.fin)], Sum.inl (Rc.d (D.bool true))]))))
          (VC.br (decide (bits BinOp.and IntKind.i64 y3.d (3 : Int) = (3 : Int)))
           (VC.br (c.fin != (0 : Int))
            (VC.ret (some (RR.tup [Sum.inr [Rc.d (D.int IntKind.i64 c.st.r0), Rc.d (D.int IntKind.i64 c.st.r1), Rc.d (D.int IntKind.i64 c.st.r2), Rc.d (D.int IntKind.i64 (asInt (List.getD (rowAt (rowsOn c.buf) (0 : Nat)) (1 : Nat) D.nilp))), Rc.new (1 : Nat) ([] ++ rowsOn c.st.mem), Rc.new (1 : Nat) ([] ++ rowsOn c.st.stack), Rc.d (D.int IntKind.i64 (asInt (List.getD (rowAt (rowsOn c.buf) (0 : Nat)) (0 : Nat) D.nilp))), Rc.nil, Rc.nil, Rc.d (D.int IntKind.i64 c.fin)], Sum.inl (Rc.d (D.bool true))])))
            (VC.ret (some (RR.tup [Sum.inr [Rc.d (D.int IntKind.i64 c.st.r0), Rc.d (D.int IntKind.i64 c.st.r1), Rc.d (D.int IntKind.i64 c.st.r2), Rc.d (D.int IntKind.i64 (asInt (List.getD (rowAt (rowsOn c.buf) (0 : Nat)) (1 : Nat) D.nilp))), Rc.new (1 : Nat) ([] ++ rowsOn c.st.mem), Rc.new (1 : Nat) ([] ++ rowsOn c.st.stack), Rc.d (D.int IntKind.i64 c.st.pc), Rc.d (D.sl (rowsOn y4)), Rc.d (D.sl (rowsOn c.rsb)), Rc.d (D.int IntKind.i64 c.fin)], Sum.inl (Rc.d (D.bool true))]))))
           VC.ff))))
       (VC.br (y3.kind == (3 : Int))
        (VC.need ((0 : Int) ≤ asInt (List.getD (rowAt (rowsOn c.buf) (0 : Nat)) (2 : Nat) D.nilp) ∧ asInt (List.getD (rowAt (rowsOn c.buf) (0 : Nat)) (2 : Nat) D.nilp) < (↑((0 : Nat) + List.length (rowsOn c.st.mem)) : Int))
        (VC.need (Int.toNat (asInt (List.getD (rowAt (rowsOn c.buf) (0 : Nat)) (2 : Nat) D.nilp)) < List.length ([] ++ rowsOn c.st.mem) ∧ List.length (rowAt ([] ++ rowsOn c.st.mem) (Int.toNat (asInt (List.getD (rowAt (rowsOn c.buf) (0 : Nat)) (2 : Nat) D.nilp)))) = (1 : Nat) ∧ (1 : Nat) ≤ (1 : Nat))
        (VC.br (c.fin != (0 : Int))
         (VC.ret (some (RR.tup [Sum.inr [Rc.d (D.int IntKind.i64 c.st.r0), Rc.d (D.int IntKind.i64 c.st.r1), Rc.d (D.int IntKind.i64 c.st.r2), Rc.d (D.int IntKind.i64 c.st.r3), Rc.new (1 : Nat) (List.set ([] ++ rowsOn c.st.mem) (Int.toNat (asInt (List.getD (rowAt (rowsOn c.buf) (0 : Nat)) (2 : Nat) D.nilp))) (splice (rowAt ([] ++ rowsOn c.st.mem) (Int.toNat (asInt (List.getD (rowAt (rowsOn c.buf) (0 : Nat)) (2 : Nat) D.nilp)))) (0 : Nat) [D.int IntKind.i64 (asInt (List.getD (rowAt (rowsOn c.buf) (0 : Nat)) (1 : Nat) D.nilp))])), Rc.new (1 : Nat) ([] ++ rowsOn c.st.stack), Rc.d (D.int IntKind.i64 (asInt (List.getD (rowAt (rowsOn c.buf) (0 : Nat)) (0 : Nat) D.nilp))), Rc.nil, Rc.nil, Rc.d (D.int IntKind.i64 c.fin)], Sum.inl (Rc.d (D.bool true))])))
         (VC.ret (some (RR.tup [Sum.inr [Rc.d (D.int IntKind.i64 c.st.r0), Rc.d (D.int IntKind.i64 c.st.r1), Rc.d (D.int IntKind.i64 c.st.r2), Rc.d (D.int IntKind.i64 c.st.r3), Rc.new (1 : Nat) (List.set ([] ++ rowsOn c.st.mem) (Int.toNat (asInt (List.getD (rowAt (rowsOn c.buf) (0 : Nat)) (2 : Nat) D.nilp))) (splice (rowAt ([] ++ rowsOn c.st.mem) (Int.toNat (asInt (List.getD (rowAt (rowsOn c.buf) (0 : Nat)) (2 : Nat) D.nilp)))) (0 : Nat) [D.int IntKind.i64 (asInt (List.getD (rowAt (rowsOn c.buf) (0 : Nat)) (1 : Nat) D.nilp))])), Rc.new (1 : Nat) ([] ++ rowsOn c.st.stack), Rc.d (D.int IntKind.i64 c.st.pc), Rc.d (D.sl (rowsOn y4)), Rc.d (D.sl (rowsOn c.rsb)), Rc.d (D.int IntKind.i64 c.fin)], Sum.inl (Rc.d (D.bool true))]))))))
        (VC.br (y3.kind == (8 : Int))
         (VC.need ((List.all [[D.int IntKind.i64 (IntKind.wrap IntKind.i64 (asInt (List.getD (rowAt (rowsOn c.buf) (0 : Nat)) (0 : Nat) D.nilp) + (1 : Int)))]] fun r ↦ List.length r == (1 : Nat)) = true ∧ (List.all ([] ++ rowsOn c.st.stack) fun r ↦ List.length r == (1 : Nat)) = true ∧ (List.length ([] ++ rowsOn c.st.stack) + List.length [[D.int IntKind.i64 (IntKind.wrap IntKind.i64 (asInt (List.getD (rowAt (rowsOn c.buf) (0 : Nat)) (0 : Nat) D.nilp) + (1 : Int)))]] + (100 : Nat)) * (9 : Nat) ≤ (70368744177664 : Nat))
         (VC.br (c.fin != (0 : Int))
          (VC.ret (some (RR.tup [Sum.inr [Rc.d (D.int IntKind.i64 c.st.r0), Rc.d (D.int IntKind.i64 c.st.r1), Rc.d (D.int IntKind.i64 c.st.r2), Rc.d (D.int IntKind.i64 c.st.r3), Rc.new (1 : Nat) ([] ++ rowsOn c.st.mem), Rc.new (1 : Nat) ([] ++ rowsOn c.st.stack ++ [[D.int IntKind.i64 (IntKind.wrap IntKind.i64 (asInt (List.getD (rowAt (rowsOn c.buf) (0 : Nat)) (0 : Nat) D.nilp) + (1 : Int)))]]), Rc.d (D.int IntKind.i64 (asInt (List.getD (rowAt (rowsOn c.buf) (0 : Nat)) (0 : Nat) D.nilp))), Rc.nil, Rc.nil, Rc.d (D.int IntKind.i64 c.fin)], Sum.inl (Rc.d (D.bool true))])))
          (VC.ret (some (RR.tup [Sum.inr [Rc.d (D.int IntKind.i64 c.st.r0), Rc.d (D.int IntKind.i64 c.st.r1), Rc.d (D.int IntKind.i64 c.st.r2), Rc.d (D.int IntKind.i64 c.st.r3), Rc.new (1 : Nat) ([] ++ rowsOn c.st.mem), Rc.new (1 : Nat) ([] ++ rowsOn c.st.stack ++ [[D.int IntKind.i64 (IntKind.wrap IntKind.i64 (asInt (List.getD (rowAt (rowsOn c.buf) (0 : Nat)) (0 : Nat) D.nilp) + (1 : Int)))]]), Rc.d (D.int IntKind.i64 c.st.pc), Rc.d (D.sl (rowsOn y4)), Rc.d (D.sl (rowsOn c.rsb)), Rc.d (D.int IntKind.i64 c.fin)], Sum.inl (Rc.d (D.bool true))])))))
         (VC.br (y3.kind == (9 : Int))
          (VC.need ((0 : Int) ≤ IntKind.wrap IntKind.i64 ((↑((0 : Nat) + List.length (rowsOn c.st.stack)) : Int) - (1 : Int)) ∧ IntKind.wrap IntKind.i64 ((↑((0 : Nat) + List.length (rowsOn c.st.stack)) : Int) - (1 : Int)) ≤ (↑(List.length ([] ++ rowsOn c.st.stack)) : Int))
          (VC.br (c.fin != (0 : Int))
           (VC.ret (some (RR.tup [Sum.inr [Rc.d (D.int IntKind.i64 c.st.r0), Rc.d (D.int IntKind.i64 c.st.r1), Rc.d (D.int IntKind.i64 c.st.r2), Rc.d (D.int IntKind.i64 c.st.r3), Rc.new (1 : Nat) ([] ++ rowsOn c.st.mem), Rc.new (1 : Nat) (List.take (Int.toNat (IntKind.wrap IntKind.i64 ((↑((0 : Nat) + List.length (rowsOn c.st.stack)) : Int) - (1 : Int)))) ([] ++ rowsOn c.st.stack)), Rc.d (D.int IntKind.i64 (asInt (List.getD (rowAt (rowsOn c.buf) (0 : Nat)) (0 : Nat) D.nilp))), Rc.nil, Rc.nil, Rc.d (D.int IntKind.i64 c.fin)], Sum.inl (Rc.d (D.bool true))])))
           (VC.ret (some (RR.tup [Sum.inr [Rc.d (D.int IntKind.i64 c.st.r0), Rc.d (D.int IntKind.i64 c.st.r1), Rc.d (D.int IntKind.i64 c.st.r2), Rc.d (D.int IntKind.i64 c.st.r3), Rc.new (1 : Nat) ([] ++ rowsOn c.st.mem), Rc.new (1 : Nat) (List.take (Int.toNat (IntKind.wrap IntKind.i64 ((↑((0 : Nat) + List.length (rowsOn c.st.stack)) : Int) - (1 : Int)))) ([] ++ rowsOn c.st.stack)), Rc.d (D.int IntKind.i64 c.st.pc), Rc.d (D.sl (rowsOn y4)), Rc.d (D.sl (rowsOn c.rsb)), Rc.d (D.int IntKind.i64 c.fin)], Sum.inl (Rc.d (D.bool true))])))))
          (VC.br (c.fin != (0 : Int))
           (VC.ret (some (RR.tup [Sum.inr [Rc.d (D.int IntKind.i64 c.st.r0), Rc.d (D.int IntKind.i64 c.st.r1), Rc.d (D.int IntKind.i64 c.st.r2), Rc.d (D.int IntKind.i64 c.st.r3), Rc.new (1 : Nat) ([] ++ rowsOn c.st.mem), Rc.new (1 : Nat) ([] ++ rowsOn c.st.stack), Rc.d (D.int IntKind.i64 (asInt (List.getD (rowAt (rowsOn c.buf) (0 : Nat)) (0 : Nat) D.nilp))), Rc.nil, Rc.nil, Rc.d (D.int IntKind.i64 c.fin)], Sum.inl (Rc.d (D.bool true))])))
           (VC.ret (some (RR.tup [Sum.inr [Rc.d (D.int IntKind.i64 c.st.r0), Rc.d (D.int IntKind.i64 c.st.r1), Rc.d (D.int IntKind.i64 c.st.r2), Rc.d (D.int IntKind.i64 c.st.r3), Rc.new (1 : Nat) ([] ++ rowsOn c.st.mem), Rc.new (1 : Nat) ([] ++ rowsOn c.st.stack), Rc.d (D.int IntKind.i64 c.st.pc), Rc.d (D.sl (rowsOn y4)), Rc.d (D.sl (rowsOn c.rsb)), Rc.d (D.int IntKind.i64 c.fin)], Sum.inl (Rc.d (D.bool true))])))))))))))))))))))))))) := by kernel_rfl
theorem haz_in (p : Prg) (l : List Ent) (i a : Int) : ∀ (m k : Nat) (r : Int), hazF p l i a m k = (r, true) → (k : Int) ≤ r ∧ r < k + m
  | 0, k, r, h => by simp [hazF] at h
  | m + 1, k, r, h => by
    unfold hazF at h
    split at h
    · simp only [Prod.mk.injEq, and_true] at h; omega
    · have := haz_in p l i a m (k + 1) r h
      omega
theorem hazS_in {p : Prg} {l : List Ent} {i a r : Int} (h : hazS p l i a = (r, true)) : 0 ≤ r ∧ r < l.length := by
  have h1 := haz_in p l i a _ _ r h
  have h2 : haz0 l i ≤ l.length + 1 := by unfold haz0; omega
  omega
def addrC (p : Prg) (c : Conf) (i : Int) (e : Ent) (y : Int) : Conf × List Obs × Bool :=
  if (c.st.mem.length : Int) ≤ y then (putC c i { e with fault := true }, [], true)
  else if (hazS p (c.buf.set i.toNat e) i y).2 = true then (⟨{ c.st with pc := (rd (c.buf.set i.toNat e) (hazS p (c.buf.set i.toNat e) i y).1).pc }, (c.buf.set i.toNat e).take (hazS p (c.buf.set i.toNat e) i y).1.toNat, c.rsb, c.fin⟩, [⟨2, y⟩], true)
  else (putC c i e, [⟨2, y⟩], true)
def addrV (p : Prg) (c : Conf) (i : Int) (x : Ins) : Int := maskS p.w (IntKind.wrap .i64 ((toldC p c i x).1 + (toldC p c i x).2.1))
def r9addrS (p : Prg) (c : Conf) (i : Int) : Conf × List Obs × Bool :=
  if canAS p c i = false then (conf0, [], false)
  else addrC p c i { rd c.buf i with addr := addrV p c i (atS p.ins (rd c.buf i).pc), known := true } (addrV p c i (atS p.ins (rd c.buf i).pc))
theorem at_ad (p : Prg) (c : Conf) (i y : Int) (e : Ent) (h0 : 0 ≤ i) (h1 : i < c.buf.length) (hl : c.buf.length ≤ 1000000) : (a_r9Addr.at_ 0 (F_ad p c c.buf.length (rowsOn (c.buf.set i.toNat e)) i y)).holds s_r9Addr.cx a_r9Addr.rs (fun r => r.data.le (rdo (addrC p c i e y))) := by
  refine at_of_round s_r9Addr_sound (m := 400) ?_
  rw [t_r9a0]
  try simp only [asRows_sl, asInt_int, asBool_bool, asStr_str, listOf_rowsOn, List.drop_zero, Prg.eta, Sta.eta, rowsOn_length, getD_drop, Nat.reduceAdd, rd_int, rd_PMem_name, rd_PMem_secret, rd_PMem_n, rd_PLabel_name, rd_PLabel_at_, rd_Ins_kind, rd_Ins_op, rd_Ins_d, rd_Ins_aR, rd_Ins_aN, rd_Ins_bR, rd_Ins_bN, rd_Ins_name, rd_Ins_target, rd_Ent_pc, rd_Ent_val, rd_Ent_addr, rd_Ent_fro, rd_Ent_next, rd_Ent_done, rd_Ent_known, rd_Ent_fault, rd_Place_reg, rd_Place_n, rd_Place_secret, rd_Obs_kind, rd_Obs_at_, rd_Dir_kind, rd_Dir_n, Prg.of_cells, Sta.of_cells]
  have hi : i.toNat < c.buf.length := by omega
  simp only [set_fault _ _ _ hi, rowsOn_length, List.length_set, listOf_rowsOn]
  unfold addrC
  refine br_dec (fun hm => ⟨⟨hi, by rw [rowAt_set _ _ e hi]; rfl, by decide⟩, ret_leD ?_⟩) (fun hm => ⟨PreOk.mk (by show (c.buf.set i.toNat e).length ≤ 1000000; rw [List.length_set]; omega) rfl, all_holds fun z hz => ?_⟩)
  · rw [if_pos hm]; exact RR.le_refl _
  · replace hz : z = hazS p (c.buf.set i.toNat e) i y := hz
    rw [if_neg hm, ← hz]
    refine br_holds (fun h2 => ?_) (fun h2 => ret_leD ?_)
    · rw [if_pos h2]
      have hin := hazS_in (show hazS p (c.buf.set i.toNat e) i y = (z.1, true) by rw [← hz, ← h2])
      have hin2 := hin.2
      rw [List.length_set] at hin2
      have g := ent_ok (c.buf.set i.toNat e) z.1 hin.1 hin.2
      have sh := okSh_ok [Kd.int .i64] (c.buf.set i.toNat e) z.1
      refine ⟨⟨hin.1, hin2⟩, ⟨by omega, g.2.2, ?_⟩, ⟨hin.1, by omega⟩, ret_leD ?_⟩
      · have := okSh_okD [Kd.int .i64] 0 (c.buf.set i.toNat e) z.1 (fun _ => rfl) hin.1 hin.2
        exact this
      · rw [rowsOn_take]; exact RR.le_refl _
    · rw [if_neg (by rw [h2]; simp)]; exact RR.le_refl _
theorem canA_in {p : Prg} {c : Conf} {i : Int} (h : canAS p c i = true) : 0 ≤ i ∧ i < c.buf.length := by
  unfold canAS at h
  split at h
  · cases h
  · rename_i hn
    refine open_in (p := p) ?_
    cases ho : openS9 p c i with
    | true => rfl
    | false => exact absurd (.inl ho) hn
def c_r9Addr : FT (Prg × Conf × Int) := ⟨84, fun x => [ap x.1, aC x.2.1, ai x.2.2], rdPCI, fun x => x.2.1.buf.length ≤ 1000000, fun x => rdo (r9addrS x.1 x.2.1 x.2.2), true, fun x => by simp [ap, aC, ai, rdPCI]⟩
theorem c_r9Addr_good : c_r9Addr.fe.Good Try.prog := by
  refine FT.good c_r9Addr ⟨Try.f84, by kernel_rfl, by decide +kernel, by kernel_rfl⟩ (fun ⟨p, c, i⟩ => by first | rfl | simp [c_r9Addr, rrRef, rdo, rConfB, riiibb, rreal, riib, rE, rrun, rstep, rins, rnum, rby, rss, rnewI, rnewE, rstab, rplaces, ri, rb, rib, Sta.fresh]) fun ⟨p, c, i⟩ hp => ?_
  refine acalls_leD s_r9Addr_sound (fn := Try.f84) (a := a_r9Addr) (nargs := 3) (tbl := [(1000000015, [2, 3, 4, 6, 9, 15])]) (by kernel_rfl) (by kernel_rfl) rfl (m := 400) ?_
  show VC.holds _ _ _ (a_r9Addr.start s_r9Addr 400 [ap p, aC c, ai i])
  rw [t_r9Addr]
  try simp only [asRows_sl, asInt_int, asBool_bool, asStr_str, listOf_rowsOn, List.drop_zero, Prg.eta, Sta.eta, rowsOn_length, getD_drop, Nat.reduceAdd, rd_int, rd_PMem_name, rd_PMem_secret, rd_PMem_n, rd_PLabel_name, rd_PLabel_at_, rd_Ins_kind, rd_Ins_op, rd_Ins_d, rd_Ins_aR, rd_Ins_aN, rd_Ins_bR, rd_Ins_bN, rd_Ins_name, rd_Ins_target, rd_Ent_pc, rd_Ent_val, rd_Ent_addr, rd_Ent_fro, rd_Ent_next, rd_Ent_done, rd_Ent_known, rd_Ent_fault, rd_Place_reg, rd_Place_n, rd_Place_secret, rd_Obs_kind, rd_Obs_at_, rd_Dir_kind, rd_Dir_n, Prg.of_cells, Sta.of_cells]
  try simp only [c_r9Addr] at hp
  have hl : c.buf.length ≤ 1000000 := hp
  have e : c_r9Addr.ans (p, c, i) = rdo (r9addrS p c i) := rfl
  rw [e]
  simp only [List.nil_append, Conf.of_mk, Nat.zero_add, List.length_nil]
  refine ⟨PreOk.mk hl rfl, all_holds fun y hy => ?_⟩
  replace hy : y = canAS p c i := hy
  unfold r9addrS
  rw [← hy]
  refine br_not (br_holds (fun h => ?_) (fun h => ?_))
  · rw [if_neg (by rw [h]; simp)]
    obtain ⟨h0, h1⟩ := canA_in (by rw [← hy]; exact h)
    have hi : i.toNat < c.buf.length := by omega
    have hrow : (rowAt (rowsOn c.buf) i.toNat).length = 8 := (ent_ok c.buf i h0 h1).2.2
    have e1 : c.buf = c.buf.set i.toNat (rd c.buf i) := by
      have h3 := rd_lt c.buf i.toNat hi
      rw [Int.toNat_of_nonneg h0] at h3
      rw [h3, List.set_getElem_self]
    have hset : ∀ v : Int, List.set (rowsOn c.buf) i.toNat (splice (rowAt (rowsOn c.buf) i.toNat) 2 [D.int .i64 v]) = rowsOn (c.buf.set i.toNat { rd c.buf i with addr := v }) := fun v => by
      have := set_addr c.buf i.toNat (rd c.buf i) hi v
      rw [← e1] at this
      exact this
    simp only [hset, set_known _ _ _ hi, get_pc _ _ _ hi, get_addr _ _ _ hi, fun e => rd_setE c.buf i e h0 h1, rowsOn_length, List.length_set, ins_eta, rd_Ent_pc, listOf_rowsOn]
    have sh : okSh [Kd.int .i64] (rowAt (rowsOn c.buf) i.toNat) := okSh_okD [Kd.int .i64] 0 c.buf i (fun _ => rfl) h0 h1
    refine ⟨⟨okE c.buf, rfl, by omega⟩, ⟨h0, h1⟩, ⟨hi, hrow, sh⟩, PreOk.mk trivial rfl, all_holds fun x hx => ⟨PreOk.mk hl rfl, all_holds fun t ht => ⟨PreOk.mk trivial rfl, all_holds fun v hv => ⟨⟨hi, hrow, by decide⟩, ⟨hi, by rw [rowAt_set _ _ _ hi]; rfl, by decide⟩, ⟨hi, by rw [rowAt_set _ _ _ hi]; rfl, by rw [rowAt_set _ _ _ hi]; rfl⟩, ?_⟩⟩⟩⟩
    replace hx : x = atS p.ins (rd c.buf i).pc := hx
    replace ht : t = toldC p c i x := ht
    replace hv : v = maskS p.w (IntKind.wrap .i64 (t.1 + t.2.1)) := hv
    have ha : addrV p c i (atS p.ins (rd c.buf i).pc) = v := by rw [hv, ht, ← hx]; rfl
    rw [ha]
    exact at_ad p c i v _ h0 h1 hl
  · rw [if_pos (by rw [h])]
    exact ret_leD (RR.le_refl _)
noncomputable def v_r9Addr : Prg × Conf × Int → Conf × List Obs × Bool := fun x => r9addrS x.1 x.2.1 x.2.2
noncomputable def sh_r9Addr : Conf × List Obs × Bool → RR := fun x => rdo x
theorem e_r9Addr (x : Prg × Conf × Int) : sh_r9Addr (v_r9Addr x) = c_r9Addr.ans x := rfl
def rcb (x : Conf × Bool) : RR := .tup [.inr (x.1.cells.map .d), .inl (.d (.bool x.2))]
def comC (c : Conf) (e : Ent) (x : Ins) : Conf × Bool :=
  if e.fault = true ∨ x.kind = 12 then (⟨{ c.st with pc := e.pc }, [], [], 2⟩, true)
  else if x.kind = 11 then (⟨{ c.st with pc := e.pc }, [], [], 1⟩, true)
  else if x.kind = 1 ∨ x.kind = 2 ∨ x.kind = 4 then (⟨c.st.setReg (x.d % 4) e.val, popS c.buf, c.rsb, c.fin⟩, true)
  else if x.kind = 3 then (⟨{ c.st with mem := c.st.mem.set e.addr.toNat e.val }, popS c.buf, c.rsb, c.fin⟩, true)
  else if x.kind = 8 then (⟨{ c.st with stack := c.st.stack ++ [IntKind.wrap .i64 (e.pc + 1)] }, popS c.buf, c.rsb, c.fin⟩, true)
  else if x.kind = 9 then (⟨{ c.st with stack := c.st.stack.dropLast }, popS c.buf, c.rsb, c.fin⟩, true)
  else (⟨c.st, popS c.buf, c.rsb, c.fin⟩, true)
def r9retS (p : Prg) (c : Conf) : Conf × Bool := if canRS p c = false then (conf0, false) else comC c (rd c.buf 0) (atS p.ins (rd c.buf 0).pc)
/-- What committing asks for. -/
def RetOk (p : Prg) (c : Conf) : Prop := canRS p c = true → (rd c.buf 0).fault = false →
  ((atS p.ins (rd c.buf 0).pc).kind = 3 → 0 ≤ (rd c.buf 0).addr ∧ (rd c.buf 0).addr < c.st.mem.length) ∧ ((atS p.ins (rd c.buf 0).pc).kind = 9 → c.st.stack.length ≠ 0)
theorem canR_in {p : Prg} {c : Conf} (h : canRS p c = true) : c.fin = 0 ∧ 0 < c.buf.length := by
  unfold canRS at h
  split at h
  · cases h
  · rename_i hn
    constructor
    · by_cases q : c.fin = 0
      · exact q
      · exact absurd (.inl q) hn
    · rcases Nat.eq_zero_or_pos c.buf.length with q | q
      · exact absurd (.inr q) hn
      · exact q
def c_r9Ret : FT (Prg × Conf) := ⟨85, fun x => [ap x.1, aC x.2], rdPC, fun x => x.2.buf.length ≤ 1000000 ∧ x.2.st.mem.length ≤ 1000000 ∧ x.2.st.stack.length ≤ 1000000 ∧ RetOk x.1 x.2, fun x => rcb (r9retS x.1 x.2), true, fun x => by simp [ap, aC, rdPC]⟩
theorem c_r9Ret_good : c_r9Ret.fe.Good Try.prog := by
  refine FT.good c_r9Ret ⟨Try.f85, by kernel_rfl, by decide +kernel, by kernel_rfl⟩ (fun ⟨p, c⟩ => by first | rfl | simp [c_r9Ret, rrRef, rdo, rConfB, riiibb, rreal, riib, rE, rrun, rstep, rins, rnum, rby, rss, rnewI, rnewE, rstab, rplaces, ri, rb, rib, rcb, Sta.fresh]) fun ⟨p, c⟩ hp => ?_
  refine acalls_leD s_r9Ret_sound (fn := Try.f85) (a := a_r9Ret) (nargs := 2) (tbl := []) (by kernel_rfl) (by kernel_rfl) rfl (m := 400) ?_
  show VC.holds _ _ _ (a_r9Ret.start s_r9Ret 400 [ap p, aC c])
  rw [t_r9Ret]
  try simp only [asRows_sl, asInt_int, asBool_bool, asStr_str, listOf_rowsOn, List.drop_zero, Prg.eta, Sta.eta, rowsOn_length, getD_drop, Nat.reduceAdd, rd_int, rd_PMem_name, rd_PMem_secret, rd_PMem_n, rd_PLabel_name, rd_PLabel_at_, rd_Ins_kind, rd_Ins_op, rd_Ins_d, rd_Ins_aR, rd_Ins_aN, rd_Ins_bR, rd_Ins_bN, rd_Ins_name, rd_Ins_target, rd_Ent_pc, rd_Ent_val, rd_Ent_addr, rd_Ent_fro, rd_Ent_next, rd_Ent_done, rd_Ent_known, rd_Ent_fault, rd_Place_reg, rd_Place_n, rd_Place_secret, rd_Obs_kind, rd_Obs_at_, rd_Dir_kind, rd_Dir_n, Prg.of_cells, Sta.of_cells]
  try simp only [c_r9Ret] at hp
  obtain ⟨hl, hm, hs, hok⟩ := hp
  have hl : c.buf.length ≤ 1000000 := hl
  have hm : c.st.mem.length ≤ 1000000 := hm
  have hs : c.st.stack.length ≤ 1000000 := hs
  have hok : RetOk p c := hok
  have e : c_r9Ret.ans (p, c) = rcb (r9retS p c) := rfl
  rw [e]
  simp only [List.nil_append, Conf.of_mk, Nat.zero_add]
  refine ⟨PreOk.mk hl rfl, all_holds fun y hy => ?_⟩
  replace hy : y = canRS p c := hy
  unfold r9retS
  rw [← hy]
  refine br_not (br_holds (fun h => ?_) (fun h => ?_))
  · rw [if_neg (by rw [h]; simp)]
    have hc : canRS p c = true := by rw [← hy]; exact h
    obtain ⟨f0, b0⟩ := canR_in hc
    have hok := hok hc
    have er : rowAt (rowsOn c.buf) 0 = row (rd c.buf 0) := rowAt_on c.buf 0 (by omega) (by omega)
    generalize rd c.buf 0 = e0 at er hok
    have g0 : asInt (List.getD (row e0) 0 D.nilp) = e0.pc := rfl
    have g1 : asInt (List.getD (row e0) 1 D.nilp) = e0.val := rfl
    have g2 : asInt (List.getD (row e0) 2 D.nilp) = e0.addr := rfl
    have g7 : asBool (List.getD (row e0) 7 D.nilp) = e0.fault := rfl
    simp only [er, g0, g1, g2, g7]
    have all1m := rowsOn_all c.st.mem 1 rfl
    have all1s := rowsOn_all c.st.stack 1 rfl
    refine ⟨⟨by decide, by omega, rfl⟩, rfl, PreOk.mk trivial rfl, all_holds fun x hx => ⟨PreOk.mk hl rfl, all_holds fun q hq => ⟨⟨all1m, rfl, by omega⟩, ⟨all1s, rfl, by omega⟩, ?_⟩⟩⟩
    replace hx : x = atS p.ins e0.pc := hx
    replace hq : q = popS c.buf := hq
    rw [← hx] at hok ⊢
    subst hq
    refine br_holds (fun hf => ret_leD ?_) (fun hf => br_beq (fun k12 => ret_leD ?_) (fun k12 => br_beq (fun k11 => ret_leD ?_) (fun k11 => ?_)))
    · unfold comC; rw [if_pos (.inl hf)]; exact RR.le_refl _
    · unfold comC; rw [if_pos (.inr k12)]; exact RR.le_refl _
    · unfold comC; rw [if_neg (by rw [hf]; simp; exact k12), if_pos k11]; exact RR.le_refl _
    obtain ⟨hok3, hok9⟩ := hok hf
    have n1 : ¬ (e0.fault = true ∨ x.kind = 12) := by rw [hf]; simp; exact k12
    have reg : (x.kind = 1 ∨ x.kind = 2 ∨ x.kind = 4) → comC c e0 x = (⟨c.st.setReg (x.d % 4) e0.val, popS c.buf, c.rsb, c.fin⟩, true) := fun hk => by
      unfold comC; rw [if_neg n1, if_neg k11, if_pos hk]
    have fin : ∀ {A B : VC}, B.holds s_r9Ret.cx a_r9Ret.rs (fun r => r.data.le (rcb (comC c e0 x))) → (VC.br (c.fin != 0) A B).holds s_r9Ret.cx a_r9Ret.rs (fun r => r.data.le (rcb (comC c e0 x))) := fun hB => br_bne (fun hn => absurd f0 hn) (fun _ => hB)
    have hd := and3 x.d
    have hmod : bits .and .i64 x.d 3 = x.d % 4 := by rw [hd]
    rw [hmod]
    have regs : (x.kind = 1 ∨ x.kind = 2 ∨ x.kind = 4) → ∀ (r : Int), x.d % 4 = r → comC c e0 x = (⟨c.st.setReg r e0.val, popS c.buf, c.rsb, c.fin⟩, true) := fun hk r hr => by rw [reg hk, hr]
    refine br_beq (fun k1 => ?_) (fun k1 => br_beq (fun k2 => ?_) (fun k2 => br_beq (fun k4 => ?_) (fun k4 => br_beq (fun k3 => ?_) (fun k3 => br_beq (fun k8 => ?_) (fun k8 => br_beq (fun k9 => ?_) (fun k9 => ?_))))))
    · have R := regs (.inl k1)
      exact br_dec (fun h => fin (ret_leD (by rw [R 0 h]; exact RR.le_refl _))) (fun _ => br_dec (fun h => fin (ret_leD (by rw [R 1 h]; exact RR.le_refl _))) (fun _ => br_dec (fun h => fin (ret_leD (by rw [R 2 h]; exact RR.le_refl _))) (fun _ => br_dec (fun h => fin (ret_leD (by rw [R 3 h]; exact RR.le_refl _))) (fun _ => by omega))))
    · have R := regs (.inr (.inl k2))
      exact br_dec (fun h => fin (ret_leD (by rw [R 0 h]; exact RR.le_refl _))) (fun _ => br_dec (fun h => fin (ret_leD (by rw [R 1 h]; exact RR.le_refl _))) (fun _ => br_dec (fun h => fin (ret_leD (by rw [R 2 h]; exact RR.le_refl _))) (fun _ => br_dec (fun h => fin (ret_leD (by rw [R 3 h]; exact RR.le_refl _))) (fun _ => by omega))))
    · have R := regs (.inr (.inr k4))
      exact br_dec (fun h => fin (ret_leD (by rw [R 0 h]; exact RR.le_refl _))) (fun _ => br_dec (fun h => fin (ret_leD (by rw [R 1 h]; exact RR.le_refl _))) (fun _ => br_dec (fun h => fin (ret_leD (by rw [R 2 h]; exact RR.le_refl _))) (fun _ => br_dec (fun h => fin (ret_leD (by rw [R 3 h]; exact RR.le_refl _))) (fun _ => by omega))))
    · obtain ⟨a0, a1⟩ := hok3 k3
      have hset := (OnL.set (R := rowsOn c.st.mem) (n := c.st.mem.length) (l := c.st.mem) ⟨rfl, rfl⟩ a0 a1 e0.val).1
      have ed : comC c e0 x = (⟨{ c.st with mem := c.st.mem.set e0.addr.toNat e0.val }, popS c.buf, c.rsb, c.fin⟩, true) := by unfold comC; rw [if_neg n1, if_neg k11, if_neg (by omega), if_pos k3]
      have ast := astore_ok (R := rowsOn c.st.mem) (n := c.st.mem.length) (l := c.st.mem) (E := 1) (a := 1) ⟨rfl, rfl⟩ rfl a0 a1 (by decide)
      refine ⟨⟨a0, a1⟩, ast, fin (ret_leD ?_)⟩
      rw [ed]
      have hset : List.set (rowsOn c.st.mem) e0.addr.toNat (splice (rowAt (rowsOn c.st.mem) e0.addr.toNat) 0 [D.int .i64 e0.val]) = rowsOn (c.st.mem.set e0.addr.toNat e0.val) := hset
      rw [hset]
      exact RR.le_refl _
    · have ed : comC c e0 x = (⟨{ c.st with stack := c.st.stack ++ [IntKind.wrap .i64 (e0.pc + 1)] }, popS c.buf, c.rsb, c.fin⟩, true) := by unfold comC; rw [if_neg n1, if_neg k11, if_neg (by omega), if_neg k3, if_pos k8]
      refine ⟨⟨rfl, all1s, by simp only [List.length_cons, List.length_nil, rowsOn_length]; omega⟩, fin (ret_leD ?_)⟩
      have es : rowsOn c.st.stack ++ [[D.int .i64 (IntKind.wrap .i64 (e0.pc + 1))]] = rowsOn (c.st.stack ++ [IntKind.wrap .i64 (e0.pc + 1)]) := rowsOn_snoc _ _
      rw [ed, es]
      exact RR.le_refl _
    · have h9 := hok9 k9
      have ed : comC c e0 x = (⟨{ c.st with stack := c.st.stack.dropLast }, popS c.buf, c.rsb, c.fin⟩, true) := by unfold comC; rw [if_neg n1, if_neg k11, if_neg (by omega), if_neg k3, if_neg k8, if_pos k9]
      rw [wrap_small ((c.st.stack.length : Int) - 1) (by omega) (by omega)]
      have et : List.take (Int.toNat ((c.st.stack.length : Int) - 1)) (rowsOn c.st.stack) = rowsOn c.st.stack.dropLast := by
        rw [show Int.toNat ((c.st.stack.length : Int) - 1) = c.st.stack.length - 1 by omega, List.dropLast_eq_take, rowsOn_take]
      refine ⟨⟨by omega, by rw [rowsOn_length]; omega⟩, fin (ret_leD ?_)⟩
      rw [ed, et]
      exact RR.le_refl _
    · have ed : comC c e0 x = (⟨c.st, popS c.buf, c.rsb, c.fin⟩, true) := by unfold comC; rw [if_neg n1, if_neg k11, if_neg (by omega), if_neg k3, if_neg k8, if_neg k9]
      refine fin (ret_leD ?_)
      rw [ed]
      exact RR.le_refl _
  · rw [if_pos (by rw [h])]
    exact ret_leD (RR.le_refl _)
noncomputable def v_r9Ret : Prg × Conf → Conf × Bool := fun x => r9retS x.1 x.2
noncomputable def sh_r9Ret : Conf × Bool → RR := fun x => rcb x
theorem e_r9Ret (x : Prg × Conf) : sh_r9Ret (v_r9Ret x) = c_r9Ret.ans x := rfl
end Go.Proofs.Ytmhfhobaicklmaa.Ax
end

section
/- The machine that guesses, by the document: fetching, told exactly; all that can be said; saying. -/
namespace Go.Proofs.Ytmhfhobaicklmaa.Ax
open Go.RowKit
set_option linter.unusedVariables false
set_option linter.unusedSimpArgs false
def aD (d : Dir) : A := .agg [.int .i64 d.kind, .int .i64 d.n]
def rD (l : List Dir) : RR := .c (.d (.sl (rowsOn l)))
def upL (j : Int) (f : Int → Bool) (m : Nat) : List Dir := ((List.range m).filter fun (k : Nat) => f k).map fun (k : Nat) => (⟨j, (k : Int)⟩ : Dir)
def allS (p : Prg) (c : Conf) : List Dir := upL 1 (fun _ => true) (guessS p c).toNat ++ upL 2 (canS p c) c.buf.length ++ upL 3 (canAS p c) c.buf.length ++ (if canRS p c = true then [⟨4, 0⟩] else [])
theorem upL_snoc (j : Int) (f : Int → Bool) {k : Int} (h : 0 ≤ k) : upL j f (k + 1).toNat = upL j f k.toNat ++ (if f k = true then [⟨j, k⟩] else []) := by
  obtain ⟨m, rfl⟩ := Int.eq_ofNat_of_zero_le h
  have e : ((m : Int) + 1).toNat = m + 1 := rfl
  rw [e, Int.toNat_natCast]
  unfold upL
  rw [List.range_succ, List.filter_append, List.map_append]
  by_cases hf : f (m : Int) = true
  · rw [if_pos hf, List.filter_cons, if_pos hf]; rfl
  · rw [if_neg hf, List.filter_cons, if_neg hf]; rfl
theorem upL_len (j : Int) (f : Int → Bool) (m : Nat) : (upL j f m).length ≤ m := by
  unfold upL
  rw [List.length_map]
  have := List.length_filter_le (fun (k : Nat) => f k) (List.range m)
  rw [List.length_range] at this
  exact this
theorem upL_t {j : Int} {f : Int → Bool} {k : Int} (h : 0 ≤ k) (hf : f k = true) (pre : List Dir) : pre ++ upL j f (k + 1).toNat = (pre ++ upL j f k.toNat) ++ [⟨j, k⟩] := by
  rw [upL_snoc j f h, if_pos hf, List.append_assoc]
theorem upL_f {j : Int} {f : Int → Bool} {k : Int} (h : 0 ≤ k) (hf : f k = false) (pre : List Dir) : pre ++ upL j f (k + 1).toNat = pre ++ upL j f k.toNat := by
  rw [upL_snoc j f h, if_neg (by rw [hf]; simp), List.append_nil]
theorem guessS_le (p : Prg) (c : Conf) : guessS p c ≤ p.ins.length + 2 := by
  unfold guessS
  repeat' split
  all_goals omega
noncomputable def a_r9All : FnA := (fnA Try.prog Try.f42 2 [(3, [2, 3, 5, 6, 1000005000000900001002]), (7, [2, 3, 5, 7, 1000005000000900001002]), (12, [2, 3, 5, 8, 1000005000000900001002])]).getD ⟨0, .skip, [], []⟩
noncomputable def s_r9All : Sp := spT [c_r9Gu.gfe v_r9Gu sh_r9Gu e_r9Gu, c_r9Can.gfe v_r9Can sh_r9Can e_r9Can, c_r9CanA.gfe v_r9CanA sh_r9CanA e_r9CanA, c_r9CanR.gfe v_r9CanR sh_r9CanR e_r9CanR]
theorem s_r9All_sound : s_r9All.sound Try.prog := spT_sound fun e he => by
  simp only [List.mem_cons, List.not_mem_nil, or_false] at he
  rcases he with rfl | rfl | rfl | rfl
  · exact FT.gfe_good c_r9Gu_good
  · exact FT.gfe_good c_r9Can_good
  · exact FT.gfe_good c_r9CanA_good
  · exact FT.gfe_good c_r9CanR_good
def F_al0 (p : Prg) (c : Conf) (n : Nat) (R : List (List D)) (k : Int) : St := ⟨mkS 61 [(2, vp 128), (3, vp 192), (5, vo 900001 n), (6, vi k)], [(128, bx p.cells), (192, bx c.cells), (900001, ba 2 R)]⟩
def F_al1 (p : Prg) (c : Conf) (n : Nat) (R : List (List D)) (k : Int) : St := ⟨mkS 61 [(2, vp 128), (3, vp 192), (5, vo 900001 n), (7, vi k)], [(128, bx p.cells), (192, bx c.cells), (900001, ba 2 R)]⟩
def F_al2 (p : Prg) (c : Conf) (n : Nat) (R : List (List D)) (k : Int) : St := ⟨mkS 61 [(2, vp 128), (3, vp 192), (5, vo 900001 n), (8, vi k)], [(128, bx p.cells), (192, bx c.cells), (900001, ba 2 R)]⟩
set_option maxRecDepth 100000 in
theorem t_r9All (p : Prg) (c : Conf) : a_r9All.start s_r9All 400 [ap p, aC c] =
(FnA.at_ a_r9All 0 (F_al0 p c (0 : Nat) [] (0 : Int))) := by kernel_rfl
set_option maxRecDepth 100000 in
theorem t_r9l0 (p : Prg) (c : Conf) (n : Nat) (R : List (List D)) (k : Int) : a_r9All.round s_r9All 400 0 (F_al0 p c n R k) =
(VC.need (PreOk c_r9Gu (Prg.of (Prg.cells p), Conf.of [D.int IntKind.i64 c.st.r0, D.int IntKind.i64 c.st.r1, D.int IntKind.i64 c.st.r2, D.int IntKind.i64 c.st.r3, D.sl (rowsOn c.st.mem), D.sl (rowsOn c.st.stack), D.int IntKind.i64 c.st.pc, D.sl (rowsOn c.buf), D.sl (rowsOn c.rsb), D.int IntKind.i64 c.fin]) [A.agg (Prg.cells p), A.agg [D.int IntKind.i64 c.st.r0, D.int IntKind.i64 c.st.r1, D.int IntKind.i64 c.st.r2, D.int IntKind.i64 c.st.r3, D.sl (rowsOn c.st.mem), D.sl (rowsOn c.st.stack), D.int IntKind.i64 c.st.pc, D.sl (rowsOn c.buf), D.sl (rowsOn c.rsb), D.int IntKind.i64 c.fin]])
(VC.all (v_r9Gu (Prg.of (Prg.cells p), Conf.of [D.int IntKind.i64 c.st.r0, D.int IntKind.i64 c.st.r1, D.int IntKind.i64 c.st.r2, D.int IntKind.i64 c.st.r3, D.sl (rowsOn c.st.mem), D.sl (rowsOn c.st.stack), D.int IntKind.i64 c.st.pc, D.sl (rowsOn c.buf), D.sl (rowsOn c.rsb), D.int IntKind.i64 c.fin])) fun (y5 : Int) =>
(VC.br (decide (k < y5))
 (VC.need ((List.all [[D.int IntKind.i64 (1 : Int), D.int IntKind.i64 k]] fun r ↦ List.length r == (2 : Nat)) = true ∧ (List.all R fun r ↦ List.length r == (2 : Nat)) = true ∧ (List.length R + List.length [[D.int IntKind.i64 (1 : Int), D.int IntKind.i64 k]] + (100 : Nat)) * (17 : Nat) ≤ (70368744177664 : Nat))
 (FnA.at_ a_r9All 0 (F_al0 p c (List.length R + List.length [[D.int IntKind.i64 (1 : Int), D.int IntKind.i64 k]]) (R ++ [[D.int IntKind.i64 (1 : Int), D.int IntKind.i64 k]]) (IntKind.wrap IntKind.i64 (k + (1 : Int))))))
 (FnA.at_ a_r9All 1 (F_al1 p c n R (0 : Int)))))) := by kernel_rfl
set_option maxRecDepth 100000 in
theorem t_r9l1 (p : Prg) (c : Conf) (n : Nat) (R : List (List D)) (k : Int) : a_r9All.round s_r9All 400 1 (F_al1 p c n R k) =
(VC.br (decide (k < (↑(List.length (rowsOn c.buf)) : Int)))
 (VC.need (PreOk c_r9Can (Prg.of (Prg.cells p), Conf.of [D.int IntKind.i64 c.st.r0, D.int IntKind.i64 c.st.r1, D.int IntKind.i64 c.st.r2, D.int IntKind.i64 c.st.r3, D.sl (rowsOn c.st.mem), D.sl (rowsOn c.st.stack), D.int IntKind.i64 c.st.pc, D.sl (rowsOn c.buf), D.sl (rowsOn c.rsb), D.int IntKind.i64 c.fin], k) [A.agg (Prg.cells p), A.agg [D.int IntKind.i64 c.st.r0, D.int IntKind.i64 c.st.r1, D.int IntKind.i64 c.st.r2, D.int IntKind.i64 c.st.r3, D.sl (rowsOn c.st.mem), D.sl (rowsOn c.st.stack), D.int IntKind.i64 c.st.pc, D.sl (rowsOn c.buf), D.sl (rowsOn c.rsb), D.int IntKind.i64 c.fin], A.c (D.int IntKind.i64 k)])
 (VC.all (v_r9Can (Prg.of (Prg.cells p), Conf.of [D.int IntKind.i64 c.st.r0, D.int IntKind.i64 c.st.r1, D.int IntKind.i64 c.st.r2, D.int IntKind.i64 c.st.r3, D.sl (rowsOn c.st.mem), D.sl (rowsOn c.st.stack), D.int IntKind.i64 c.st.pc, D.sl (rowsOn c.buf), D.sl (rowsOn c.rsb), D.int IntKind.i64 c.fin], k)) fun (y5 : Bool) =>
 (VC.br (y5)
  (VC.need ((List.all [[D.int IntKind.i64 (2 : Int), D.int IntKind.i64 k]] fun r ↦ List.length r == (2 : Nat)) = true ∧ (List.all R fun r ↦ List.length r == (2 : Nat)) = true ∧ (List.length R + List.length [[D.int IntKind.i64 (2 : Int), D.int IntKind.i64 k]] + (100 : Nat)) * (17 : Nat) ≤ (70368744177664 : Nat))
  (FnA.at_ a_r9All 1 (F_al1 p c (List.length R + List.length [[D.int IntKind.i64 (2 : Int), D.int IntKind.i64 k]]) (R ++ [[D.int IntKind.i64 (2 : Int), D.int IntKind.i64 k]]) (IntKind.wrap IntKind.i64 (k + (1 : Int))))))
  (FnA.at_ a_r9All 1 (F_al1 p c n R (IntKind.wrap IntKind.i64 (k + (1 : Int))))))))
 (FnA.at_ a_r9All 2 (F_al2 p c n R (0 : Int)))) := by kernel_rfl
set_option maxRecDepth 100000 in
theorem t_r9l2 (p : Prg) (c : Conf) (n : Nat) (R : List (List D)) (k : Int) : a_r9All.round s_r9All 400 2 (F_al2 p c n R k) =
(VC.br (decide (k < (↑(List.length (rowsOn c.buf)) : Int)))
 (VC.need (PreOk c_r9CanA (Prg.of (Prg.cells p), Conf.of [D.int IntKind.i64 c.st.r0, D.int IntKind.i64 c.st.r1, D.int IntKind.i64 c.st.r2, D.int IntKind.i64 c.st.r3, D.sl (rowsOn c.st.mem), D.sl (rowsOn c.st.stack), D.int IntKind.i64 c.st.pc, D.sl (rowsOn c.buf), D.sl (rowsOn c.rsb), D.int IntKind.i64 c.fin], k) [A.agg (Prg.cells p), A.agg [D.int IntKind.i64 c.st.r0, D.int IntKind.i64 c.st.r1, D.int IntKind.i64 c.st.r2, D.int IntKind.i64 c.st.r3, D.sl (rowsOn c.st.mem), D.sl (rowsOn c.st.stack), D.int IntKind.i64 c.st.pc, D.sl (rowsOn c.buf), D.sl (rowsOn c.rsb), D.int IntKind.i64 c.fin], A.c (D.int IntKind.i64 k)])
 (VC.all (v_r9CanA (Prg.of (Prg.cells p), Conf.of [D.int IntKind.i64 c.st.r0, D.int IntKind.i64 c.st.r1, D.int IntKind.i64 c.st.r2, D.int IntKind.i64 c.st.r3, D.sl (rowsOn c.st.mem), D.sl (rowsOn c.st.stack), D.int IntKind.i64 c.st.pc, D.sl (rowsOn c.buf), D.sl (rowsOn c.rsb), D.int IntKind.i64 c.fin], k)) fun (y5 : Bool) =>
 (VC.br (y5)
  (VC.need ((List.all [[D.int IntKind.i64 (3 : Int), D.int IntKind.i64 k]] fun r ↦ List.length r == (2 : Nat)) = true ∧ (List.all R fun r ↦ List.length r == (2 : Nat)) = true ∧ (List.length R + List.length [[D.int IntKind.i64 (3 : Int), D.int IntKind.i64 k]] + (100 : Nat)) * (17 : Nat) ≤ (70368744177664 : Nat))
  (FnA.at_ a_r9All 2 (F_al2 p c (List.length R + List.length [[D.int IntKind.i64 (3 : Int), D.int IntKind.i64 k]]) (R ++ [[D.int IntKind.i64 (3 : Int), D.int IntKind.i64 k]]) (IntKind.wrap IntKind.i64 (k + (1 : Int))))))
  (FnA.at_ a_r9All 2 (F_al2 p c n R (IntKind.wrap IntKind.i64 (k + (1 : Int))))))))
 (VC.need (PreOk c_r9CanR (Prg.of (Prg.cells p), Conf.of [D.int IntKind.i64 c.st.r0, D.int IntKind.i64 c.st.r1, D.int IntKind.i64 c.st.r2, D.int IntKind.i64 c.st.r3, D.sl (rowsOn c.st.mem), D.sl (rowsOn c.st.stack), D.int IntKind.i64 c.st.pc, D.sl (rowsOn c.buf), D.sl (rowsOn c.rsb), D.int IntKind.i64 c.fin]) [A.agg (Prg.cells p), A.agg [D.int IntKind.i64 c.st.r0, D.int IntKind.i64 c.st.r1, D.int IntKind.i64 c.st.r2, D.int IntKind.i64 c.st.r3, D.sl (rowsOn c.st.mem), D.sl (rowsOn c.st.stack), D.int IntKind.i64 c.st.pc, D.sl (rowsOn c.buf), D.sl (rowsOn c.rsb), D.int IntKind.i64 c.fin]])
 (VC.all (v_r9CanR (Prg.of (Prg.cells p), Conf.of [D.int IntKind.i64 c.st.r0, D.int IntKind.i64 c.st.r1, D.int IntKind.i64 c.st.r2, D.int IntKind.i64 c.st.r3, D.sl (rowsOn c.st.mem), D.sl (rowsOn c.st.stack), D.int IntKind.i64 c.st.pc, D.sl (rowsOn c.buf), D.sl (rowsOn c.rsb), D.int IntKind.i64 c.fin])) fun (y5 : Bool) =>
 (VC.br (y5)
  (VC.need ((List.all [[D.int IntKind.i64 (4 : Int), D.int IntKind.i64 (0 : Int)]] fun r ↦ List.length r == (2 : Nat)) = true ∧ (List.all R fun r ↦ List.length r == (2 : Nat)) = true ∧ (List.length R + (1 : Nat) + (100 : Nat)) * (17 : Nat) ≤ (70368744177664 : Nat))
  (VC.ret (some (RR.c (Rc.new (2 : Nat) (R ++ [[D.int IntKind.i64 (4 : Int), D.int IntKind.i64 (0 : Int)]]))))))
  (VC.ret (some (RR.c (Rc.new (2 : Nat) R)))))))) := by kernel_rfl
theorem l_r9l2 (p : Prg) (c : Conf) (pre : List Dir) (hb : c.buf.length ≤ 1000000) (hpre : pre.length ≤ 3000000) (he : pre = upL 1 (fun _ => true) (guessS p c).toNat ++ upL 2 (canS p c) c.buf.length) : ∀ i_ : Int × Nat × List (List D), (fun (v : Int × Nat × List (List D)) => 0 ≤ v.1 ∧ v.1 ≤ c.buf.length ∧ OnL v.2.2 v.2.1 (pre ++ upL 3 (canAS p c) v.1.toNat)) i_ → (a_r9All.at_ 2 ((fun (v : Int × Nat × List (List D)) => F_al2 p c v.2.1 v.2.2 v.1) i_)).holds s_r9All.cx a_r9All.rs (fun r => r.data.le (rD (allS p c))) := by
  refine loop_rule (a := a_r9All) (j := 2) (m := 400) s_r9All_sound (fun (v : Int × Nat × List (List D)) => F_al2 p c v.2.1 v.2.2 v.1) (fun (v : Int × Nat × List (List D)) => 0 ≤ v.1 ∧ v.1 ≤ c.buf.length ∧ OnL v.2.2 v.2.1 (pre ++ upL 3 (canAS p c) v.1.toNat)) (fun (v : Int × Nat × List (List D)) => ((c.buf.length : Int) - v.1).toNat) ?_
  rintro ⟨k, n, R⟩ h_inv ih
  try dsimp only at h_inv
  replace ih := fun (v0 : Int) (v1 : Nat) (v2 : List (List D)) => ih (v0, v1, v2)
  try dsimp only at ih
  show VC.holds _ _ _ (a_r9All.round s_r9All 400 2 (F_al2 p c n R k))
  rw [t_r9l2]
  try simp only [asRows_sl, asInt_int, asBool_bool, asStr_str, listOf_rowsOn, List.drop_zero, Prg.eta, Sta.eta, rowsOn_length, getD_drop, Nat.reduceAdd, rd_int, rd_PMem_name, rd_PMem_secret, rd_PMem_n, rd_PLabel_name, rd_PLabel_at_, rd_Ins_kind, rd_Ins_op, rd_Ins_d, rd_Ins_aR, rd_Ins_aN, rd_Ins_bR, rd_Ins_bN, rd_Ins_name, rd_Ins_target, rd_Ent_pc, rd_Ent_val, rd_Ent_addr, rd_Ent_fro, rd_Ent_next, rd_Ent_done, rd_Ent_known, rd_Ent_fault, rd_Place_reg, rd_Place_n, rd_Place_secret, rd_Obs_kind, rd_Obs_at_, rd_Dir_kind, rd_Dir_n, Prg.of_cells, Sta.of_cells]
  obtain ⟨k0, k1, h1⟩ := h_inv
  have w1 : IntKind.wrap .i64 (k + 1) = k + 1 := wrap_small _ (by omega) (by omega)
  simp only [w1, Conf.of_mk, rowsOn_length]
  have hb' := upL_len 3 (canAS p c) k.toNat
  have hL : (pre ++ upL 3 (canAS p c) k.toNat).length ≤ 4000000 := by rw [List.length_append]; omega
  refine br_dec (fun hk => ?_) (fun hk => ?_)
  · refine ⟨PreOk.mk hb rfl, all_holds fun y hy => br_holds (fun hf => ?_) (fun hf => ?_)⟩
    · replace hy : y = canAS p c k := hy
      rw [hf] at hy
      refine ⟨app_ok h1 rfl rfl (by simp only [List.length_cons, List.length_nil]; omega), ih _ _ _ ⟨by omega, by omega, ?_⟩ (by omega)⟩
      rw [upL_t k0 hy.symm]
      exact h1.snoc (⟨3, k⟩ : Dir)
    · replace hy : y = canAS p c k := hy
      rw [hf] at hy
      refine ih _ _ _ ⟨by omega, by omega, ?_⟩ (by omega)
      rw [upL_f k0 hy.symm]
      exact h1
  · have ek : k.toNat = c.buf.length := by omega
    rw [ek] at h1 hL
    refine ⟨PreOk.mk hb rfl, all_holds fun y hy => br_holds (fun hf => ?_) (fun hf => ?_)⟩
    · replace hy : y = canRS p c := hy
      rw [hf] at hy
      have h2 := h1.snoc (⟨4, 0⟩ : Dir)
      have e4 : allS p c = pre ++ upL 3 (canAS p c) c.buf.length ++ [⟨4, 0⟩] := by unfold allS; rw [if_pos hy.symm, he]
      refine ⟨app_ok h1 rfl rfl (by simp only [List.length_cons, List.length_nil]; omega), ret_leD ?_⟩
      rw [e4]
      show (RR.c (Rc.new 2 (R ++ [row (⟨4, 0⟩ : Dir)]))).data.le _
      rw [h2.1]
      exact RR.le_refl _
    · replace hy : y = canRS p c := hy
      rw [hf] at hy
      have e4 : allS p c = pre ++ upL 3 (canAS p c) c.buf.length := by unfold allS; rw [if_neg (by rw [← hy]; simp), he, List.append_nil]
      refine ret_leD ?_
      rw [e4, h1.1]
      exact RR.le_refl _
theorem l_r9l1 (p : Prg) (c : Conf) (pre : List Dir) (hb : c.buf.length ≤ 1000000) (hpre : pre.length ≤ 2000000) (he : pre = upL 1 (fun _ => true) (guessS p c).toNat) : ∀ i_ : Int × Nat × List (List D), (fun (v : Int × Nat × List (List D)) => 0 ≤ v.1 ∧ v.1 ≤ c.buf.length ∧ OnL v.2.2 v.2.1 (pre ++ upL 2 (canS p c) v.1.toNat)) i_ → (a_r9All.at_ 1 ((fun (v : Int × Nat × List (List D)) => F_al1 p c v.2.1 v.2.2 v.1) i_)).holds s_r9All.cx a_r9All.rs (fun r => r.data.le (rD (allS p c))) := by
  refine loop_rule (a := a_r9All) (j := 1) (m := 400) s_r9All_sound (fun (v : Int × Nat × List (List D)) => F_al1 p c v.2.1 v.2.2 v.1) (fun (v : Int × Nat × List (List D)) => 0 ≤ v.1 ∧ v.1 ≤ c.buf.length ∧ OnL v.2.2 v.2.1 (pre ++ upL 2 (canS p c) v.1.toNat)) (fun (v : Int × Nat × List (List D)) => ((c.buf.length : Int) - v.1).toNat) ?_
  rintro ⟨k, n, R⟩ h_inv ih
  try dsimp only at h_inv
  replace ih := fun (v0 : Int) (v1 : Nat) (v2 : List (List D)) => ih (v0, v1, v2)
  try dsimp only at ih
  show VC.holds _ _ _ (a_r9All.round s_r9All 400 1 (F_al1 p c n R k))
  rw [t_r9l1]
  try simp only [asRows_sl, asInt_int, asBool_bool, asStr_str, listOf_rowsOn, List.drop_zero, Prg.eta, Sta.eta, rowsOn_length, getD_drop, Nat.reduceAdd, rd_int, rd_PMem_name, rd_PMem_secret, rd_PMem_n, rd_PLabel_name, rd_PLabel_at_, rd_Ins_kind, rd_Ins_op, rd_Ins_d, rd_Ins_aR, rd_Ins_aN, rd_Ins_bR, rd_Ins_bN, rd_Ins_name, rd_Ins_target, rd_Ent_pc, rd_Ent_val, rd_Ent_addr, rd_Ent_fro, rd_Ent_next, rd_Ent_done, rd_Ent_known, rd_Ent_fault, rd_Place_reg, rd_Place_n, rd_Place_secret, rd_Obs_kind, rd_Obs_at_, rd_Dir_kind, rd_Dir_n, Prg.of_cells, Sta.of_cells]
  obtain ⟨k0, k1, h1⟩ := h_inv
  have w1 : IntKind.wrap .i64 (k + 1) = k + 1 := wrap_small _ (by omega) (by omega)
  simp only [w1, Conf.of_mk, rowsOn_length]
  have hb' := upL_len 2 (canS p c) k.toNat
  have hL : (pre ++ upL 2 (canS p c) k.toNat).length ≤ 3000000 := by rw [List.length_append]; omega
  refine br_dec (fun hk => ?_) (fun hk => ?_)
  · refine ⟨PreOk.mk hb rfl, all_holds fun y hy => br_holds (fun hf => ?_) (fun hf => ?_)⟩
    · replace hy : y = canS p c k := hy
      rw [hf] at hy
      refine ⟨app_ok h1 rfl rfl (by simp only [List.length_cons, List.length_nil]; omega), ih _ _ _ ⟨by omega, by omega, ?_⟩ (by omega)⟩
      rw [upL_t k0 hy.symm]
      exact h1.snoc (⟨2, k⟩ : Dir)
    · replace hy : y = canS p c k := hy
      rw [hf] at hy
      refine ih _ _ _ ⟨by omega, by omega, ?_⟩ (by omega)
      rw [upL_f k0 hy.symm]
      exact h1
  · have ek : k.toNat = c.buf.length := by omega
    rw [ek] at h1 hL
    refine l_r9l2 p c (pre ++ upL 2 (canS p c) c.buf.length) hb hL (by rw [he]) (0, _, _) ⟨by omega, by dsimp only; omega, ?_⟩
    show OnL R n (pre ++ upL 2 (canS p c) c.buf.length ++ [])
    rw [List.append_nil]
    exact h1
theorem l_r9l0 (p : Prg) (c : Conf) (hb : c.buf.length ≤ 1000000) (hq : p.ins.length ≤ 1000000) : ∀ i_ : Int × Nat × List (List D), (fun (v : Int × Nat × List (List D)) => 0 ≤ v.1 ∧ v.1 ≤ max (guessS p c) 0 ∧ OnL v.2.2 v.2.1 ([] ++ upL 1 (fun _ => true) v.1.toNat)) i_ → (a_r9All.at_ 0 ((fun (v : Int × Nat × List (List D)) => F_al0 p c v.2.1 v.2.2 v.1) i_)).holds s_r9All.cx a_r9All.rs (fun r => r.data.le (rD (allS p c))) := by
  refine loop_rule (a := a_r9All) (j := 0) (m := 400) s_r9All_sound (fun (v : Int × Nat × List (List D)) => F_al0 p c v.2.1 v.2.2 v.1) (fun (v : Int × Nat × List (List D)) => 0 ≤ v.1 ∧ v.1 ≤ max (guessS p c) 0 ∧ OnL v.2.2 v.2.1 ([] ++ upL 1 (fun _ => true) v.1.toNat)) (fun (v : Int × Nat × List (List D)) => (guessS p c - v.1).toNat) ?_
  rintro ⟨k, n, R⟩ h_inv ih
  try dsimp only at h_inv
  replace ih := fun (v0 : Int) (v1 : Nat) (v2 : List (List D)) => ih (v0, v1, v2)
  try dsimp only at ih
  show VC.holds _ _ _ (a_r9All.round s_r9All 400 0 (F_al0 p c n R k))
  rw [t_r9l0]
  try simp only [asRows_sl, asInt_int, asBool_bool, asStr_str, listOf_rowsOn, List.drop_zero, Prg.eta, Sta.eta, rowsOn_length, getD_drop, Nat.reduceAdd, rd_int, rd_PMem_name, rd_PMem_secret, rd_PMem_n, rd_PLabel_name, rd_PLabel_at_, rd_Ins_kind, rd_Ins_op, rd_Ins_d, rd_Ins_aR, rd_Ins_aN, rd_Ins_bR, rd_Ins_bN, rd_Ins_name, rd_Ins_target, rd_Ent_pc, rd_Ent_val, rd_Ent_addr, rd_Ent_fro, rd_Ent_next, rd_Ent_done, rd_Ent_known, rd_Ent_fault, rd_Place_reg, rd_Place_n, rd_Place_secret, rd_Obs_kind, rd_Obs_at_, rd_Dir_kind, rd_Dir_n, Prg.of_cells, Sta.of_cells]
  obtain ⟨k0, k1, h1⟩ := h_inv
  have hg := guessS_le p c
  have w1 : IntKind.wrap .i64 (k + 1) = k + 1 := wrap_small _ (by omega) (by omega)
  simp only [w1, Conf.of_mk, Prg.of_cells]
  have hb' := upL_len 1 (fun _ => true) k.toNat
  have hL : ([] ++ upL 1 (fun _ => true) k.toNat).length ≤ 2000000 := by rw [List.nil_append]; omega
  refine ⟨PreOk.mk hq rfl, all_holds fun y hy => ?_⟩
  replace hy : y = guessS p c := hy
  subst hy
  refine br_dec (fun hk => ?_) (fun hk => ?_)
  · refine ⟨app_ok h1 rfl rfl (by simp only [List.length_cons, List.length_nil]; omega), ih _ _ _ ⟨by omega, by omega, ?_⟩ (by omega)⟩
    rw [upL_t k0 rfl]
    exact h1.snoc (⟨1, k⟩ : Dir)
  · have ek : k.toNat = (guessS p c).toNat := by omega
    rw [ek] at h1 hL
    rw [List.nil_append] at h1 hL
    refine l_r9l1 p c (upL 1 (fun _ => true) (guessS p c).toNat) hb hL rfl (0, _, _) ⟨by omega, by dsimp only; omega, ?_⟩
    show OnL R n (upL 1 (fun _ => true) (guessS p c).toNat ++ [])
    rw [List.append_nil]
    exact h1
def c_r9All : FT (Prg × Conf) := ⟨42, fun x => [ap x.1, aC x.2], rdPC, fun x => x.1.ins.length ≤ 1000000 ∧ x.2.buf.length ≤ 1000000, fun x => rD (allS x.1 x.2), true, fun x => by simp [ap, aC, rdPC]⟩
theorem c_r9All_good : c_r9All.fe.Good Try.prog := by
  refine FT.good c_r9All ⟨Try.f42, by kernel_rfl, by decide +kernel, by kernel_rfl⟩ (fun ⟨p, c⟩ => by first | rfl | simp [c_r9All, rrRef, rcb, rdo, rConfB, riiibb, rreal, riib, rE, rrun, rstep, rins, rnum, rby, rss, rnewI, rnewE, rstab, rplaces, ri, rb, rib, rD, Sta.fresh]) fun ⟨p, c⟩ hp => ?_
  refine acalls_leD s_r9All_sound (fn := Try.f42) (a := a_r9All) (nargs := 2) (tbl := [(3, [2, 3, 5, 6, 1000005000000900001002]), (7, [2, 3, 5, 7, 1000005000000900001002]), (12, [2, 3, 5, 8, 1000005000000900001002])]) (by kernel_rfl) (by kernel_rfl) rfl (m := 400) ?_
  show VC.holds _ _ _ (a_r9All.start s_r9All 400 [ap p, aC c])
  rw [t_r9All]
  try simp only [asRows_sl, asInt_int, asBool_bool, asStr_str, listOf_rowsOn, List.drop_zero, Prg.eta, Sta.eta, rowsOn_length, getD_drop, Nat.reduceAdd, rd_int, rd_PMem_name, rd_PMem_secret, rd_PMem_n, rd_PLabel_name, rd_PLabel_at_, rd_Ins_kind, rd_Ins_op, rd_Ins_d, rd_Ins_aR, rd_Ins_aN, rd_Ins_bR, rd_Ins_bN, rd_Ins_name, rd_Ins_target, rd_Ent_pc, rd_Ent_val, rd_Ent_addr, rd_Ent_fro, rd_Ent_next, rd_Ent_done, rd_Ent_known, rd_Ent_fault, rd_Place_reg, rd_Place_n, rd_Place_secret, rd_Obs_kind, rd_Obs_at_, rd_Dir_kind, rd_Dir_n, Prg.of_cells, Sta.of_cells]
  try simp only [c_r9All] at hp
  obtain ⟨hq, hb⟩ := hp
  exact l_r9l0 p c hb hq (0, _, _) ⟨by decide, by dsimp only; omega, OnL.nil⟩
noncomputable def v_r9All : Prg × Conf → List Dir := fun x => allS x.1 x.2
noncomputable def sh_r9All : List Dir → RR := fun l => rD l
theorem e_r9All (x : Prg × Conf) : sh_r9All (v_r9All x) = c_r9All.ans x := rfl
end Go.Proofs.Ytmhfhobaicklmaa.Ax
end

section
/- The machine that guesses, by the document: fetching, told exactly; what is said to it. -/
namespace Go.Proofs.Ytmhfhobaicklmaa.Ax
open Go.RowKit
set_option linter.unusedVariables false
set_option linter.unusedSimpArgs false
/-- What is fetched, and the returns that are left. -/
def fetE (p : Prg) (c : Conf) (g : Int) : Ent × List Int :=
  if (atS p.ins c.st.pc).kind = 5 then (⟨c.st.pc, 0, 0, -1, if g = 1 then (atS p.ins c.st.pc).target else IntKind.wrap .i64 (c.st.pc + 1), false, false, false⟩, c.rsb)
  else if (atS p.ins c.st.pc).kind = 6 then (⟨c.st.pc, 0, 0, -1, (atS p.ins c.st.pc).target, true, false, false⟩, c.rsb)
  else if (atS p.ins c.st.pc).kind = 7 then (⟨c.st.pc, 0, 0, -1, g, false, false, false⟩, c.rsb)
  else if (atS p.ins c.st.pc).kind = 9 then (if 0 < c.rsb.length then (⟨c.st.pc, 0, 0, -1, rd c.rsb ((c.rsb.length : Int) - 1), false, false, false⟩, c.rsb.take (c.rsb.length - 1)) else (⟨c.st.pc, 0, 0, -1, g, false, false, false⟩, c.rsb))
  else if (atS p.ins c.st.pc).kind = 8 then (⟨c.st.pc, 0, 0, -1, (atS p.ins c.st.pc).target, true, false, match realK p c.buf c.buf.length c.st.stack with | none => true | some out => decide ((4 : Int) ≤ (out.length : Int))⟩, pushS c.rsb (IntKind.wrap .i64 (c.st.pc + 1)))
  else if (atS p.ins c.st.pc).kind = 11 ∨ (atS p.ins c.st.pc).kind = 12 then (⟨c.st.pc, 0, 0, -1, -1, true, false, false⟩, c.rsb)
  else (⟨c.st.pc, 0, 0, -1, IntKind.wrap .i64 (c.st.pc + 1), false, false, false⟩, c.rsb)
def ftPut (c : Conf) (x : Ent × List Int) : Conf := ⟨{ c.st with pc := x.1.next }, c.buf ++ [x.1], x.2, c.fin⟩
def fetC (p : Prg) (c : Conf) (g : Int) : Conf × Bool := if g < 0 ∨ guessS p c ≤ g then (conf0, false) else (ftPut c (fetE p c g), true)
def c_r9Fe : FT (Prg × Conf × Int) := ⟨82, fun x => [ap x.1, aC x.2.1, ai x.2.2], rdPCI, fun x => x.1.ins.length ≤ 1000000 ∧ x.2.1.buf.length ≤ 1000000 ∧ x.2.1.rsb.length ≤ 1000000 ∧ x.2.1.st.stack.length ≤ 1000000, fun x => rcb (fetC x.1 x.2.1 x.2.2), true, fun x => by simp [ap, aC, ai, rdPCI]⟩
theorem fe_put {c : Conf} {e : Ent} {rs : List Int} {Rs : List (List D)} (hR : Rs = rowsOn rs) {R : RR}
    (h : R.data = .tup [.inr [.d (.int .i64 c.st.r0), .d (.int .i64 c.st.r1), .d (.int .i64 c.st.r2), .d (.int .i64 c.st.r3), .d (.sl (rowsOn c.st.mem)), .d (.sl (rowsOn c.st.stack)), .d (.int .i64 e.next), .d (.sl (rowsOn c.buf ++ [row e])), .d (.sl Rs), .d (.int .i64 c.fin)], .inl (.d (.bool true))]) : R.data.le (rcb (ftPut c (e, rs), true)) := by
  have er : [row e] = rowsOn [e] := rfl
  rw [h, hR, er, ← rowsOn_append]
  exact RR.le_refl _
theorem c_r9Fe_good : c_r9Fe.fe.Good Try.prog := by
  refine FT.good c_r9Fe ⟨Try.f82, by kernel_rfl, by decide +kernel, by kernel_rfl⟩ (fun ⟨p, c, g⟩ => by first | rfl | simp [c_r9Fe, rrRef, rD, rcb, rdo, rConfB, riiibb, rreal, riib, rE, rrun, rstep, rins, rnum, rby, rss, rnewI, rnewE, rstab, rplaces, ri, rb, rib, Sta.fresh]) fun ⟨p, c, g⟩ hp => ?_
  refine acalls_leD s_r9Fe_sound (fn := Try.f82) (a := a_r9Fe) (nargs := 3) (tbl := []) (by kernel_rfl) (by kernel_rfl) rfl (m := 400) ?_
  show VC.holds _ _ _ (a_r9Fe.start s_r9Fe 400 [ap p, aC c, ai g])
  rw [t_r9Fe]
  try simp only [asRows_sl, asInt_int, asBool_bool, asStr_str, listOf_rowsOn, List.drop_zero, Prg.eta, Sta.eta, rowsOn_length, getD_drop, Nat.reduceAdd, rd_int, rd_PMem_name, rd_PMem_secret, rd_PMem_n, rd_PLabel_name, rd_PLabel_at_, rd_Ins_kind, rd_Ins_op, rd_Ins_d, rd_Ins_aR, rd_Ins_aN, rd_Ins_bR, rd_Ins_bN, rd_Ins_name, rd_Ins_target, rd_Ent_pc, rd_Ent_val, rd_Ent_addr, rd_Ent_fro, rd_Ent_next, rd_Ent_done, rd_Ent_known, rd_Ent_fault, rd_Place_reg, rd_Place_n, rd_Place_secret, rd_Obs_kind, rd_Obs_at_, rd_Dir_kind, rd_Dir_n, Prg.of_cells, Sta.of_cells]
  try simp only [c_r9Fe] at hp
  obtain ⟨hq, b1, b2, b3⟩ := hp
  have hq : p.ins.length ≤ 1000000 := hq
  have b1 : c.buf.length ≤ 1000000 := b1
  have b2 : c.rsb.length ≤ 1000000 := b2
  have b3 : c.st.stack.length ≤ 1000000 := b3
  have e : c_r9Fe.ans (p, c, g) = rcb (fetC p c g) := rfl
  rw [e]
  have all8 := rowsOn_all c.buf 8 rfl
  have eL : (rowsOn c.buf).length = c.buf.length := rowsOn_length _
  simp only [List.nil_append, Conf.of_mk, Prg.of_cells, List.length_append, List.length_cons, List.length_nil, rowsOn_take, listOf_rowsOn, rowsOn_length]
  refine br_dec (fun hg => ret_leD ?_) (fun hg => ⟨PreOk.mk hq rfl, all_holds fun y hy => br_dec (fun hg2 => ret_leD ?_) (fun hg2 => ⟨PreOk.mk trivial rfl, all_holds fun x hx => ?_⟩)⟩)
  · unfold fetC; rw [if_pos (.inl hg)]; exact RR.le_refl _
  · replace hy : y = guessS p c := hy
    unfold fetC; rw [if_pos (.inr (by omega))]; exact RR.le_refl _
  replace hx : x = atS p.ins c.st.pc := hx
  replace hy : y = guessS p c := hy
  have ef : fetC p c g = (ftPut c (fetE p c g), true) := by unfold fetC; rw [if_neg (by omega)]
  rw [ef]
  unfold fetE
  rw [← hx]
  have W : c.rsb.length > 0 → IntKind.wrap .i64 ((c.rsb.length : Int) - 1) = (c.rsb.length : Int) - 1 := fun _ => wrap_small _ (by omega) (by omega)
  refine br_beq (fun k5 => br_beq (fun h1 => ?_) (fun h1 => ?_)) (fun k5 => br_beq (fun k6 => ?_) (fun k6 => br_beq (fun k7 => ?_) (fun k7 => br_beq (fun k9 => ?_) (fun k9 => br_beq (fun k8 => ?_) (fun k8 => br_beq (fun k11 => ?_) (fun k11 => br_beq (fun k12 => ?_) (fun k12 => ?_)))))))
  · rw [if_pos k5, if_pos h1]; exact ⟨⟨all8, rfl, by omega⟩, ⟨rfl, all8, by omega⟩, ret_leD (fe_put rfl rfl)⟩
  · rw [if_pos k5, if_neg h1]; exact ⟨⟨all8, rfl, by omega⟩, ⟨rfl, all8, by omega⟩, ret_leD (fe_put rfl rfl)⟩
  · rw [if_neg k5, if_pos k6]; exact ⟨⟨all8, rfl, by omega⟩, ⟨rfl, all8, by omega⟩, ret_leD (fe_put rfl rfl)⟩
  · rw [if_neg k5, if_neg k6, if_pos k7]; exact ⟨⟨all8, rfl, by omega⟩, ⟨rfl, all8, by omega⟩, ret_leD (fe_put rfl rfl)⟩
  · rw [if_neg k5, if_neg k6, if_neg k7, if_pos k9]
    refine br_dec (fun hl => ?_) (fun hl => ?_)
    · rw [if_pos (by omega), W (by omega)]
      have e1 : ((c.rsb.length : Int) - 1).toNat = c.rsb.length - 1 := by omega
      rw [e1]
      have er : rowAt (rowsOn c.rsb) (c.rsb.length - 1) = row (rd c.rsb ((c.rsb.length : Int) - 1)) := by
        have := rowAt_on c.rsb ((c.rsb.length : Int) - 1) (by omega) (by omega)
        rw [e1] at this; exact this
      rw [er]
      have eT : (c.rsb.take (c.rsb.length - 1)).length = c.rsb.length - 1 := by rw [List.length_take]; omega
      have eT2 : (rowsOn (c.rsb.take (c.rsb.length - 1))).length = c.rsb.length - 1 := by rw [rowsOn_length, eT]
      exact ⟨⟨by omega, by omega, rfl⟩, rfl, ⟨rowsOn_all c.rsb 1 rfl, by omega, by omega, by omega⟩, ⟨rowsOn_all _ 1 rfl, rfl, by omega⟩, ⟨all8, rfl, by omega⟩, ⟨rfl, all8, by omega⟩, ret_leD (fe_put rfl rfl)⟩
    · rw [if_neg (by omega)]
      exact ⟨⟨all8, rfl, by omega⟩, ⟨rfl, all8, by omega⟩, ret_leD (fe_put rfl rfl)⟩
  · rw [if_neg k5, if_neg k6, if_neg k7, if_neg k9, if_pos k8]
    have ec : cutS c.buf (c.buf.length : Int) = c.buf := by unfold cutS; simp
    refine ⟨PreOk.mk (by dsimp only [c_r9Real]; omega) rfl, all_holds fun v hv => br_not (br_holds (fun h1 => ?_) (fun h1 => ?_))⟩
    all_goals
      replace hv : v = realK p c.buf (cutS c.buf (c.buf.length : Int)).length c.st.stack := hv
      rw [ec] at hv
      refine ⟨PreOk.mk (by dsimp only [c_r9Push]; omega) rfl, all_holds fun z hz => ?_⟩
      replace hz : z = pushS c.rsb (IntKind.wrap .i64 (c.st.pc + 1)) := hz
      rw [← hv, ← hz]
    · cases v with
      | none => cases h1
      | some out => exact ⟨⟨all8, rfl, by omega⟩, ⟨rfl, all8, by omega⟩, ret_leD (fe_put rfl rfl)⟩
    · cases v with
      | some out => cases h1
      | none => exact ⟨⟨all8, rfl, by omega⟩, ⟨rfl, all8, by omega⟩, ret_leD (fe_put rfl rfl)⟩
  · rw [if_neg k5, if_neg k6, if_neg k7, if_neg k9, if_neg k8, if_pos (.inl k11)]; exact ⟨⟨all8, rfl, by omega⟩, ⟨rfl, all8, by omega⟩, ret_leD (fe_put rfl rfl)⟩
  · rw [if_neg k5, if_neg k6, if_neg k7, if_neg k9, if_neg k8, if_pos (.inr k12)]; exact ⟨⟨all8, rfl, by omega⟩, ⟨rfl, all8, by omega⟩, ret_leD (fe_put rfl rfl)⟩
  · rw [if_neg k5, if_neg k6, if_neg k7, if_neg k9, if_neg k8, if_neg (by omega)]; exact ⟨⟨all8, rfl, by omega⟩, ⟨rfl, all8, by omega⟩, ret_leD (fe_put rfl rfl)⟩
noncomputable def v_r9Fe : Prg × Conf × Int → Conf × Bool := fun x => fetC x.1 x.2.1 x.2.2
noncomputable def sh_r9Fe : Conf × Bool → RR := fun x => rcb x
theorem e_r9Fe (x : Prg × Conf × Int) : sh_r9Fe (v_r9Fe x) = c_r9Fe.ans x := rfl
end Go.Proofs.Ytmhfhobaicklmaa.Ax
end

section
/- The machine that guesses, by the document: what is said to it. -/
namespace Go.Proofs.Ytmhfhobaicklmaa.Ax
open Go.RowKit
set_option linter.unusedVariables false
set_option linter.unusedSimpArgs false
def rdPCD : List A → Prg × Conf × Dir
  | [.agg q, .agg c, .agg [.int _ k, .int _ n]] => (Prg.of q, Conf.of c, ⟨k, n⟩)
  | _ => default
def sayS (p : Prg) (c : Conf) (d : Dir) : Conf × List Obs × Bool :=
  if d.kind = 1 then ((fetC p c d.n).1, [], (fetC p c d.n).2)
  else if d.kind = 2 then r9doS p c d.n
  else if d.kind = 3 then r9addrS p c d.n
  else if d.kind = 4 ∧ d.n = 0 then ((r9retS p c).1, [], (r9retS p c).2)
  else (conf0, [], false)
noncomputable def a_r9Say : FnA := (fnA Try.prog Try.f43 3 []).getD ⟨0, .skip, [], []⟩
noncomputable def s_r9Say : Sp := spT [c_r9Fe.gfe v_r9Fe sh_r9Fe e_r9Fe, c_r9Do.gfe v_r9Do sh_r9Do e_r9Do, c_r9Addr.gfe v_r9Addr sh_r9Addr e_r9Addr, c_r9Ret.gfe v_r9Ret sh_r9Ret e_r9Ret]
theorem s_r9Say_sound : s_r9Say.sound Try.prog := spT_sound fun e he => by
  simp only [List.mem_cons, List.not_mem_nil, or_false] at he
  rcases he with rfl | rfl | rfl | rfl
  · exact FT.gfe_good c_r9Fe_good
  · exact FT.gfe_good c_r9Do_good
  · exact FT.gfe_good c_r9Addr_good
  · exact FT.gfe_good c_r9Ret_good
set_option maxRecDepth 100000 in
theorem t_r9Say (p : Prg) (c : Conf) (d : Dir) : a_r9Say.start s_r9Say 400 [ap p, aC c, aD d] =
(VC.br (d.kind == (1 : Int))
 (VC.need (PreOk c_r9Fe (Prg.of (Prg.cells p), Conf.of [D.int IntKind.i64 c.st.r0, D.int IntKind.i64 c.st.r1, D.int IntKind.i64 c.st.r2, D.int IntKind.i64 c.st.r3, D.sl (rowsOn c.st.mem), D.sl (rowsOn c.st.stack), D.int IntKind.i64 c.st.pc, D.sl (rowsOn c.buf), D.sl (rowsOn c.rsb), D.int IntKind.i64 c.fin], d.n) [A.agg (Prg.cells p), A.agg [D.int IntKind.i64 c.st.r0, D.int IntKind.i64 c.st.r1, D.int IntKind.i64 c.st.r2, D.int IntKind.i64 c.st.r3, D.sl (rowsOn c.st.mem), D.sl (rowsOn c.st.stack), D.int IntKind.i64 c.st.pc, D.sl (rowsOn c.buf), D.sl (rowsOn c.rsb), D.int IntKind.i64 c.fin], A.c (D.int IntKind.i64 d.n)])
 (VC.all (v_r9Fe (Prg.of (Prg.cells p), Conf.of [D.int IntKind.i64 c.st.r0, D.int IntKind.i64 c.st.r1, D.int IntKind.i64 c.st.r2, D.int IntKind.i64 c.st.r3, D.sl (rowsOn c.st.mem), D.sl (rowsOn c.st.stack), D.int IntKind.i64 c.st.pc, D.sl (rowsOn c.buf), D.sl (rowsOn c.rsb), D.int IntKind.i64 c.fin], d.n)) fun (y3 : Conf × Bool) =>
 (VC.ret (some (RR.tup [Sum.inr [Rc.d (D.int IntKind.i64 y3.fst.st.r0), Rc.d (D.int IntKind.i64 y3.fst.st.r1), Rc.d (D.int IntKind.i64 y3.fst.st.r2), Rc.d (D.int IntKind.i64 y3.fst.st.r3), Rc.d (D.sl (rowsOn y3.fst.st.mem)), Rc.d (D.sl (rowsOn y3.fst.st.stack)), Rc.d (D.int IntKind.i64 y3.fst.st.pc), Rc.d (D.sl (rowsOn y3.fst.buf)), Rc.d (D.sl (rowsOn y3.fst.rsb)), Rc.d (D.int IntKind.i64 y3.fst.fin)], Sum.inl Rc.nil, Sum.inl (Rc.d (D.bool y3.snd))])))))
 (VC.br (d.kind == (2 : Int))
  (VC.need (PreOk c_r9Do (Prg.of (Prg.cells p), Conf.of [D.int IntKind.i64 c.st.r0, D.int IntKind.i64 c.st.r1, D.int IntKind.i64 c.st.r2, D.int IntKind.i64 c.st.r3, D.sl (rowsOn c.st.mem), D.sl (rowsOn c.st.stack), D.int IntKind.i64 c.st.pc, D.sl (rowsOn c.buf), D.sl (rowsOn c.rsb), D.int IntKind.i64 c.fin], d.n) [A.agg (Prg.cells p), A.agg [D.int IntKind.i64 c.st.r0, D.int IntKind.i64 c.st.r1, D.int IntKind.i64 c.st.r2, D.int IntKind.i64 c.st.r3, D.sl (rowsOn c.st.mem), D.sl (rowsOn c.st.stack), D.int IntKind.i64 c.st.pc, D.sl (rowsOn c.buf), D.sl (rowsOn c.rsb), D.int IntKind.i64 c.fin], A.c (D.int IntKind.i64 d.n)])
  (VC.all (v_r9Do (Prg.of (Prg.cells p), Conf.of [D.int IntKind.i64 c.st.r0, D.int IntKind.i64 c.st.r1, D.int IntKind.i64 c.st.r2, D.int IntKind.i64 c.st.r3, D.sl (rowsOn c.st.mem), D.sl (rowsOn c.st.stack), D.int IntKind.i64 c.st.pc, D.sl (rowsOn c.buf), D.sl (rowsOn c.rsb), D.int IntKind.i64 c.fin], d.n)) fun (y3 : Conf × List Obs × Bool) =>
  (VC.ret (some (RR.tup [Sum.inr [Rc.d (D.int IntKind.i64 y3.fst.st.r0), Rc.d (D.int IntKind.i64 y3.fst.st.r1), Rc.d (D.int IntKind.i64 y3.fst.st.r2), Rc.d (D.int IntKind.i64 y3.fst.st.r3), Rc.d (D.sl (rowsOn y3.fst.st.mem)), Rc.d (D.sl (rowsOn y3.fst.st.stack)), Rc.d (D.int IntKind.i64 y3.fst.st.pc), Rc.d (D.sl (rowsOn y3.fst.buf)), Rc.d (D.sl (rowsOn y3.fst.rsb)), Rc.d (D.int IntKind.i64 y3.fst.fin)], Sum.inl (Rc.d (D.sl (rowsOn y3.snd.fst))), Sum.inl (Rc.d (D.bool y3.snd.snd))])))))
  (VC.br (d.kind == (3 : Int))
   (VC.need (PreOk c_r9Addr (Prg.of (Prg.cells p), Conf.of [D.int IntKind.i64 c.st.r0, D.int IntKind.i64 c.st.r1, D.int IntKind.i64 c.st.r2, D.int IntKind.i64 c.st.r3, D.sl (rowsOn c.st.mem), D.sl (rowsOn c.st.stack), D.int IntKind.i64 c.st.pc, D.sl (rowsOn c.buf), D.sl (rowsOn c.rsb), D.int IntKind.i64 c.fin], d.n) [A.agg (Prg.cells p), A.agg [D.int IntKind.i64 c.st.r0, D.int IntKind.i64 c.st.r1, D.int IntKind.i64 c.st.r2, D.int IntKind.i64 c.st.r3, D.sl (rowsOn c.st.mem), D.sl (rowsOn c.st.stack), D.int IntKind.i64 c.st.pc, D.sl (rowsOn c.buf), D.sl (rowsOn c.rsb), D.int IntKind.i64 c.fin], A.c (D.int IntKind.i64 d.n)])
   (VC.all (v_r9Addr (Prg.of (Prg.cells p), Conf.of [D.int IntKind.i64 c.st.r0, D.int IntKind.i64 c.st.r1, D.int IntKind.i64 c.st.r2, D.int IntKind.i64 c.st.r3, D.sl (rowsOn c.st.mem), D.sl (rowsOn c.st.stack), D.int IntKind.i64 c.st.pc, D.sl (rowsOn c.buf), D.sl (rowsOn c.rsb), D.int IntKind.i64 c.fin], d.n)) fun (y3 : Conf × List Obs × Bool) =>
   (VC.ret (some (RR.tup [Sum.inr [Rc.d (D.int IntKind.i64 y3.fst.st.r0), Rc.d (D.int IntKind.i64 y3.fst.st.r1), Rc.d (D.int IntKind.i64 y3.fst.st.r2), Rc.d (D.int IntKind.i64 y3.fst.st.r3), Rc.d (D.sl (rowsOn y3.fst.st.mem)), Rc.d (D.sl (rowsOn y3.fst.st.stack)), Rc.d (D.int IntKind.i64 y3.fst.st.pc), Rc.d (D.sl (rowsOn y3.fst.buf)), Rc.d (D.sl (rowsOn y3.fst.rsb)), Rc.d (D.int IntKind.i64 y3.fst.fin)], Sum.inl (Rc.d (D.sl (rowsOn y3.snd.fst))), Sum.inl (Rc.d (D.bool y3.snd.snd))])))))
   (VC.br (d.kind == (4 : Int))
    (VC.br (d.n == (0 : Int))
     (VC.need (PreOk c_r9Ret (Prg.of (Prg.cells p), Conf.of [D.int IntKind.i64 c.st.r0, D.int IntKind.i64 c.st.r1, D.int IntKind.i64 c.st.r2, D.int IntKind.i64 c.st.r3, D.sl (rowsOn c.st.mem), D.sl (rowsOn c.st.stack), D.int IntKind.i64 c.st.pc, D.sl (rowsOn c.buf), D.sl (rowsOn c.rsb), D.int IntKind.i64 c.fin]) [A.agg (Prg.cells p), A.agg [D.int IntKind.i64 c.st.r0, D.int IntKind.i64 c.st.r1, D.int IntKind.i64 c.st.r2, D.int IntKind.i64 c.st.r3, D.sl (rowsOn c.st.mem), D.sl (rowsOn c.st.stack), D.int IntKind.i64 c.st.pc, D.sl (rowsOn c.buf), D.sl (rowsOn c.rsb), D.int IntKind.i64 c.fin]])
     (VC.all (v_r9Ret (Prg.of (Prg.cells p), Conf.of [D.int IntKind.i64 c.st.r0, D.int IntKind.i64 c.st.r1, D.int IntKind.i64 c.st.r2, D.int IntKind.i64 c.st.r3, D.sl (rowsOn c.st.mem), D.sl (rowsOn c.st.stack), D.int IntKind.i64 c.st.pc, D.sl (rowsOn c.buf), D.sl (rowsOn c.rsb), D.int IntKind.i64 c.fin])) fun (y3 : Conf × Bool) =>
     (VC.ret (some (RR.tup [Sum.inr [Rc.d (D.int IntKind.i64 y3.fst.st.r0), Rc.d (D.int IntKind.i64 y3.fst.st.r1), Rc.d (D.int IntKind.i64 y3.fst.st.r2), Rc.d (D.int IntKind.i64 y3.fst.st.r3), Rc.d (D.sl (rowsOn y3.fst.st.mem)), Rc.d (D.sl (rowsOn y3.fst.st.stack)), Rc.d (D.int IntKind.i64 y3.fst.st.pc), Rc.d (D.sl (rowsOn y3.fst.buf)), Rc.d (D.sl (rowsOn y3.fst.rsb)), Rc.d (D.int IntKind.i64 y3.fst.fin)], Sum.inl Rc.nil, Sum.inl (Rc.d (D.bool y3.snd))])))))
     (VC.ret (some (RR.tup [Sum.inr [Rc.d (D.int IntKind.i64 (0 : Int)), Rc.d (D.int IntKind.i64 (0 : Int)), Rc.d (D.int IntKind.i64 (0 : Int)), Rc.d (D.int IntKind.i64 (0 : Int)), Rc.nil, Rc.nil, Rc.d (D.int IntKind.i64 (0 : Int)), Rc.nil, Rc.nil, Rc.d (D.int IntKind.i64 (0 : Int))], Sum.inl Rc.nil, Sum.inl (Rc.d (D.bool false))]))))
    (VC.ret (some (RR.tup [Sum.inr [Rc.d (D.int IntKind.i64 (0 : Int)), Rc.d (D.int IntKind.i64 (0 : Int)), Rc.d (D.int IntKind.i64 (0 : Int)), Rc.d (D.int IntKind.i64 (0 : Int)), Rc.nil, Rc.nil, Rc.d (D.int IntKind.i64 (0 : Int)), Rc.nil, Rc.nil, Rc.d (D.int IntKind.i64 (0 : Int))], Sum.inl Rc.nil, Sum.inl (Rc.d (D.bool false))]))))))) := by kernel_rfl
def c_r9Say : FT (Prg × Conf × Dir) := ⟨43, fun x => [ap x.1, aC x.2.1, aD x.2.2], rdPCD, fun x => x.1.ins.length ≤ 1000000 ∧ x.2.1.buf.length ≤ 1000000 ∧ x.2.1.rsb.length ≤ 1000000 ∧ x.2.1.st.stack.length ≤ 1000000 ∧ x.2.1.st.mem.length ≤ 1000000 ∧ (x.2.2.kind = 4 → RetOk x.1 x.2.1), fun x => rdo (sayS x.1 x.2.1 x.2.2), true, fun x => by simp [ap, aC, aD, rdPCD]⟩
theorem c_r9Say_good : c_r9Say.fe.Good Try.prog := by
  refine FT.good c_r9Say ⟨Try.f43, by kernel_rfl, by decide +kernel, by kernel_rfl⟩ (fun ⟨p, c, d⟩ => by first | rfl | simp [c_r9Say, rrRef, rD, rcb, rdo, rConfB, riiibb, rreal, riib, rE, rrun, rstep, rins, rnum, rby, rss, rnewI, rnewE, rstab, rplaces, ri, rb, rib, Sta.fresh]) fun ⟨p, c, d⟩ hp => ?_
  refine acalls_leD s_r9Say_sound (fn := Try.f43) (a := a_r9Say) (nargs := 3) (tbl := []) (by kernel_rfl) (by kernel_rfl) rfl (m := 400) ?_
  show VC.holds _ _ _ (a_r9Say.start s_r9Say 400 [ap p, aC c, aD d])
  rw [t_r9Say]
  try simp only [asRows_sl, asInt_int, asBool_bool, asStr_str, listOf_rowsOn, List.drop_zero, Prg.eta, Sta.eta, rowsOn_length, getD_drop, Nat.reduceAdd, rd_int, rd_PMem_name, rd_PMem_secret, rd_PMem_n, rd_PLabel_name, rd_PLabel_at_, rd_Ins_kind, rd_Ins_op, rd_Ins_d, rd_Ins_aR, rd_Ins_aN, rd_Ins_bR, rd_Ins_bN, rd_Ins_name, rd_Ins_target, rd_Ent_pc, rd_Ent_val, rd_Ent_addr, rd_Ent_fro, rd_Ent_next, rd_Ent_done, rd_Ent_known, rd_Ent_fault, rd_Place_reg, rd_Place_n, rd_Place_secret, rd_Obs_kind, rd_Obs_at_, rd_Dir_kind, rd_Dir_n, Prg.of_cells, Sta.of_cells]
  try simp only [c_r9Say] at hp
  obtain ⟨hq, b1, b2, b3, b4, b5⟩ := hp
  have e : c_r9Say.ans (p, c, d) = rdo (sayS p c d) := rfl
  rw [e]
  unfold sayS
  simp only [Conf.of_mk, Prg.of_cells]
  refine br_beq (fun k1 => ?_) (fun k1 => br_beq (fun k2 => ?_) (fun k2 => br_beq (fun k3 => ?_) (fun k3 => br_beq (fun k4 => br_beq (fun k5 => ?_) (fun k5 => ?_)) (fun k4 => ?_))))
  · rw [if_pos k1]
    refine ⟨PreOk.mk ⟨hq, b1, b2, b3⟩ rfl, all_holds fun y hy => ret_leD ?_⟩
    replace hy : y = fetC p c d.n := hy
    rw [← hy]
    exact RR.le_refl _
  · rw [if_neg k1, if_pos k2]
    refine ⟨PreOk.mk ⟨b1, b3⟩ rfl, all_holds fun y hy => ret_leD ?_⟩
    replace hy : y = r9doS p c d.n := hy
    rw [← hy]
    exact RR.le_refl _
  · rw [if_neg k1, if_neg k2, if_pos k3]
    refine ⟨PreOk.mk b1 rfl, all_holds fun y hy => ret_leD ?_⟩
    replace hy : y = r9addrS p c d.n := hy
    rw [← hy]
    exact RR.le_refl _
  · rw [if_neg k1, if_neg k2, if_neg k3, if_pos ⟨k4, k5⟩]
    refine ⟨PreOk.mk ⟨b1, b4, b3, b5 k4⟩ rfl, all_holds fun y hy => ret_leD ?_⟩
    replace hy : y = r9retS p c := hy
    rw [← hy]
    exact RR.le_refl _
  · rw [if_neg k1, if_neg k2, if_neg k3, if_neg (by omega)]
    exact ret_leD (RR.le_refl _)
  · rw [if_neg k1, if_neg k2, if_neg k3, if_neg (by omega)]
    exact ret_leD (RR.le_refl _)
noncomputable def v_r9Say : Prg × Conf × Dir → Conf × List Obs × Bool := fun x => sayS x.1 x.2.1 x.2.2
noncomputable def sh_r9Say : Conf × List Obs × Bool → RR := fun x => rdo x
theorem e_r9Say (x : Prg × Conf × Dir) : sh_r9Say (v_r9Say x) = c_r9Say.ans x := rfl
noncomputable def a_r9Beg : FnA := (fnA Try.prog Try.f41 1 []).getD ⟨0, .skip, [], []⟩
def s_r9Beg : Sp := spT []
theorem s_r9Beg_sound : s_r9Beg.sound Try.prog := spT_sound fun e he => by cases he
set_option maxRecDepth 100000 in
theorem t_r9Beg (s : Sta) : a_r9Beg.start s_r9Beg 400 [.agg s.cells] =
(VC.ret (some (RR.agg [Rc.d (D.int IntKind.i64 s.r0), Rc.d (D.int IntKind.i64 s.r1), Rc.d (D.int IntKind.i64 s.r2), Rc.d (D.int IntKind.i64 s.r3), Rc.d (D.sl (rowsOn s.mem)), Rc.d (D.sl (rowsOn s.stack)), Rc.d (D.int IntKind.i64 s.pc), Rc.nil, Rc.nil, Rc.d (D.int IntKind.i64 (0 : Int))]))) := by kernel_rfl
def begC (s : Sta) : Conf := ⟨s, [], [], 0⟩
def rdSta : List A → Sta × Unit
  | [.agg s] => (Sta.of s, ())
  | _ => default
def c_r9Beg : FT (Sta × Unit) := ⟨41, fun x => [.agg x.1.cells], rdSta, fun _ => True, fun x => .agg ((begC x.1).cells.map .d), true, fun x => by simp [rdSta]⟩
theorem c_r9Beg_good : c_r9Beg.fe.Good Try.prog := by
  refine FT.good c_r9Beg ⟨Try.f41, by kernel_rfl, by decide +kernel, by kernel_rfl⟩ (fun ⟨s, u⟩ => by first | rfl | simp [c_r9Beg, rrRef, rD, rcb, rdo, rConfB, riiibb, rreal, riib, rE, rrun, rstep, rins, rnum, rby, rss, rnewI, rnewE, rstab, rplaces, ri, rb, rib, Sta.fresh]) fun ⟨s, u⟩ hp => ?_
  refine acalls_leD s_r9Beg_sound (fn := Try.f41) (a := a_r9Beg) (nargs := 1) (tbl := []) (by kernel_rfl) (by kernel_rfl) rfl (m := 400) ?_
  show VC.holds _ _ _ (a_r9Beg.start s_r9Beg 400 [.agg s.cells])
  rw [t_r9Beg]
  try simp only [asRows_sl, asInt_int, asBool_bool, asStr_str, listOf_rowsOn, List.drop_zero, Prg.eta, Sta.eta, rowsOn_length, getD_drop, Nat.reduceAdd, rd_int, rd_PMem_name, rd_PMem_secret, rd_PMem_n, rd_PLabel_name, rd_PLabel_at_, rd_Ins_kind, rd_Ins_op, rd_Ins_d, rd_Ins_aR, rd_Ins_aN, rd_Ins_bR, rd_Ins_bN, rd_Ins_name, rd_Ins_target, rd_Ent_pc, rd_Ent_val, rd_Ent_addr, rd_Ent_fro, rd_Ent_next, rd_Ent_done, rd_Ent_known, rd_Ent_fault, rd_Place_reg, rd_Place_n, rd_Place_secret, rd_Obs_kind, rd_Obs_at_, rd_Dir_kind, rd_Dir_n, Prg.of_cells, Sta.of_cells]
  try simp only [c_r9Beg] at hp
  exact ret_leD (RR.le_refl _)
noncomputable def v_r9Beg : Sta × Unit → Conf := fun x => begC x.1
noncomputable def sh_r9Beg : Conf → RR := fun c => .agg (c.cells.map .d)
theorem e_r9Beg (x : Sta × Unit) : sh_r9Beg (v_r9Beg x) = c_r9Beg.ans x := rfl
noncomputable def a_wk : FnA := (fnA Try.prog Try.f13 3 [(4, [2, 3, 6, 8, 9, 10, 1000009000000900001002])]).getD ⟨0, .skip, [], []⟩
noncomputable def s_wk : Sp := spT [c_r9Beg.gfe v_r9Beg sh_r9Beg e_r9Beg, c_r9All.gfe v_r9All sh_r9All e_r9All, c_r9Say.gfe v_r9Say sh_r9Say e_r9Say]
theorem s_wk_sound : s_wk.sound Try.prog := spT_sound fun e he => by
  simp only [List.mem_cons, List.not_mem_nil, or_false] at he
  rcases he with rfl | rfl | rfl
  · exact FT.gfe_good c_r9Beg_good
  · exact FT.gfe_good c_r9All_good
  · exact FT.gfe_good c_r9Say_good
def F_wk (p : Prg) (l : List Int) (c : Conf) (n : Nat) (R : List (List D)) (k : Int) : St := ⟨mkS 70 [(2, vr (rowsOn l)), (3, vp 192), (6, vp 384), (8, vp 512), (9, vo 900001 n), (10, vi k)], [(192, bx p.cells), (384, bc [.d (.int .i64 0), .d (.int .i64 0), .d (.int .i64 0), .d (.int .i64 0), .nil, .nil, .d (.int .i64 0), .nil, .nil, .d (.int .i64 0)]), (512, bx c.cells), (900001, ba 2 R)]⟩
set_option maxRecDepth 100000 in
theorem t_wk (p : Prg) (s : Sta) (l : List Int) : a_wk.start s_wk 400 [ap p, .agg s.cells, al l] =
(VC.need (PreOk c_r9Beg (Sta.of (Sta.cells s), ()) [A.agg (Sta.cells s)])
(VC.all (v_r9Beg (Sta.of (Sta.cells s), ())) fun (y3 : Conf) =>
(FnA.at_ a_wk 0 (F_wk p l y3 (0 : Nat) [] (0 : Int))))) := by kernel_rfl
set_option maxRecDepth 100000 in
theorem t_wk0 (p : Prg) (l : List Int) (c : Conf) (n : Nat) (R : List (List D)) (k : Int) : a_wk.round s_wk 400 0 (F_wk p l c n R k) =
(VC.br (decide (k < (↑(List.length (rowsOn l)) : Int)))
 (VC.br (decide (k < (60 : Int)))
  (VC.need (PreOk c_r9All (Prg.of (Prg.cells p), Conf.of [D.int IntKind.i64 c.st.r0, D.int IntKind.i64 c.st.r1, D.int IntKind.i64 c.st.r2, D.int IntKind.i64 c.st.r3, D.sl (rowsOn c.st.mem), D.sl (rowsOn c.st.stack), D.int IntKind.i64 c.st.pc, D.sl (rowsOn c.buf), D.sl (rowsOn c.rsb), D.int IntKind.i64 c.fin]) [A.agg (Prg.cells p), A.agg [D.int IntKind.i64 c.st.r0, D.int IntKind.i64 c.st.r1, D.int IntKind.i64 c.st.r2, D.int IntKind.i64 c.st.r3, D.sl (rowsOn c.st.mem), D.sl (rowsOn c.st.stack), D.int IntKind.i64 c.st.pc, D.sl (rowsOn c.buf), D.sl (rowsOn c.rsb), D.int IntKind.i64 c.fin]])
  (VC.all (v_r9All (Prg.of (Prg.cells p), Conf.of [D.int IntKind.i64 c.st.r0, D.int IntKind.i64 c.st.r1, D.int IntKind.i64 c.st.r2, D.int IntKind.i64 c.st.r3, D.sl (rowsOn c.st.mem), D.sl (rowsOn c.st.stack), D.int IntKind.i64 c.st.pc, D.sl (rowsOn c.buf), D.sl (rowsOn c.rsb), D.int IntKind.i64 c.fin])) fun (y6 : List Dir) =>
  (VC.br ((↑(List.length (rowsOn y6)) : Int) == (0 : Int))
   (VC.ret (some (RR.tup [Sum.inr [Rc.d (D.int IntKind.i64 c.st.r0), Rc.d (D.int IntKind.i64 c.st.r1), Rc.d (D.int IntKind.i64 c.st.r2), Rc.d (D.int IntKind.i64 c.st.r3), Rc.d (D.sl (rowsOn c.st.mem)), Rc.d (D.sl (rowsOn c.st.stack)), Rc.d (D.int IntKind.i64 c.st.pc), Rc.d (D.sl (rowsOn c.buf)), Rc.d (D.sl (rowsOn c.rsb)), Rc.d (D.int IntKind.i64 c.fin)], Sum.inl (Rc.new (2 : Nat) R)])))
   (VC.need ((0 : Int) ≤ k ∧ k < (↑(List.length (rowsOn l)) : Int) ∧ List.length (rowAt (rowsOn l) (Int.toNat k)) = (1 : Nat))
   (VC.need (okSh [Kd.int IntKind.i64] (rowAt (rowsOn l) (Int.toNat k)))
   (VC.need ((↑(List.length (rowsOn y6)) : Int) ≠ (0 : Int))
   (VC.need ((0 : Int) ≤ Int.tmod (bits BinOp.and IntKind.i64 (asInt (List.getD (rowAt (rowsOn l) (Int.toNat k)) (0 : Nat) D.nilp)) (65535 : Int)) (↑(List.length (rowsOn y6)) : Int) ∧ Int.tmod (bits BinOp.and IntKind.i64 (asInt (List.getD (rowAt (rowsOn l) (Int.toNat k)) (0 : Nat) D.nilp)) (65535 : Int)) (↑(List.length (rowsOn y6)) : Int) < (↑(List.length (rowsOn y6)) : Int) ∧ List.length (rowAt (rowsOn y6) (Int.toNat (Int.tmod (bits BinOp.and IntKind.i64 (asInt (List.getD (rowAt (rowsOn l) (Int.toNat k)) (0 : Nat) D.nilp)) (65535 : Int)) (↑(List.length (rowsOn y6)) : Int)))) = (2 : Nat))
   (VC.need (okSh [Kd.int IntKind.i64, Kd.int IntKind.i64] (rowAt (rowsOn y6) (Int.toNat (Int.tmod (bits BinOp.and IntKind.i64 (asInt (List.getD (rowAt (rowsOn l) (Int.toNat k)) (0 : Nat) D.nilp)) (65535 : Int)) (↑(List.length (rowsOn y6)) : Int)))))
   (VC.need (PreOk c_r9Say (Prg.of (Prg.cells p), Conf.of [D.int IntKind.i64 c.st.r0, D.int IntKind.i64 c.st.r1, D.int IntKind.i64 c.st.r2, D.int IntKind.i64 c.st.r3, D.sl (rowsOn c.st.mem), D.sl (rowsOn c.st.stack), D.int IntKind.i64 c.st.pc, D.sl (rowsOn c.buf), D.sl (rowsOn c.rsb), D.int IntKind.i64 c.fin], { kind := asInt (List.getD (rowAt (rowsOn y6) (Int.toNat (Int.tmod (bits BinOp.and IntKind.i64 (asInt (List.getD (rowAt (rowsOn l) (Int.toNat k)) (0 : Nat) D.nilp)) (65535 : Int)) (↑(List.length (rowsOn y6)) : Int)))) (0 : Nat) D.nilp), n := asInt (List.getD (rowAt (rowsOn y6) (Int.toNat (Int.tmod (bits BinOp.and IntKind.i64 (asInt (List.getD (rowAt (rowsOn l) (Int.toNat k)) (0 : Nat) D.nilp)) (65535 : Int)) (↑(List.length (rowsOn y6)) : Int)))) (1 : Nat) D.nilp) }) [A.agg (Prg.cells p), A.agg [D.int IntKind.i64 c.st.r0, D.int IntKind.i64 c.st.r1, D.int IntKind.i64 c.st.r2, D.int IntKind.i64 c.st.r3, D.sl (rowsOn c.st.mem), D.sl (rowsOn c.st.stack), D.int IntKind.i64 c.st.pc, D.sl (rowsOn c.buf), D.sl (rowsOn c.rsb), D.int IntKind.i64 c.fin], A.agg [D.int IntKind.i64 (asInt (List.getD (rowAt (rowsOn y6) (Int.toNat (Int.tmod (bits BinOp.and IntKind.i64 (asInt (List.getD (rowAt (rowsOn l) (Int.toNat k)) (0 : Nat) D.nilp)) (65535 : Int)) (↑(List.length (rowsOn y6)) : Int)))) (0 : Nat) D.nilp)), D.int IntKind.i64 (asInt (List.getD (rowAt (rowsOn y6) (Int.toNat (Int.tmod (bits BinOp.and IntKind.i64 (asInt (List.getD (rowAt (rowsOn l) (Int.toNat k)) (0 : Nat) D.nilp)) (65535 : Int)) (↑(List.length (rowsOn y6)) : Int)))) (1 : Nat) D.nilp))]])
   (VC.all (v_r9Say (Prg.of (Prg.cells p), Conf.of [D.int IntKind.i64 c.st.r0, D.int IntKind.i64 c.st.r1, D.int IntKind.i64 c.st.r2, D.int IntKind.i64 c.st.r3, D.sl (rowsOn c.st.mem), D.sl (rowsOn c.st.stack), D.int IntKind.i64 c.st.pc, D.sl (rowsOn c.buf), D.sl (rowsOn c.rsb), D.int IntKind.i64 c.fin], { kind := asInt (List.getD (rowAt (rowsOn y6) (Int.toNat (Int.tmod (bits BinOp.and IntKind.i64 (asInt (List.getD (rowAt (rowsOn l) (Int.toNat k)) (0 : Nat) D.nilp)) (65535 : Int)) (↑(List.length (rowsOn y6)) : Int)))) (0 : Nat) D.nilp), n := asInt (List.getD (rowAt (rowsOn y6) (Int.toNat (Int.tmod (bits BinOp.and IntKind.i64 (asInt (List.getD (rowAt (rowsOn l) (Int.toNat k)) (0 : Nat) D.nilp)) (65535 : Int)) (↑(List.length (rowsOn y6)) : Int)))) (1 : Nat) D.nilp) })) fun (y7 : Conf × List Obs × Bool) =>
   (VC.br (!y7.snd.snd)
    (VC.ret (some (RR.tup [Sum.inr [Rc.d (D.int IntKind.i64 c.st.r0), Rc.d (D.int IntKind.i64 c.st.r1), Rc.d (D.int IntKind.i64 c.st.r2), Rc.d (D.int IntKind.i64 c.st.r3), Rc.d (D.sl (rowsOn c.st.mem)), Rc.d (D.sl (rowsOn c.st.stack)), Rc.d (D.int IntKind.i64 c.st.pc), Rc.d (D.sl (rowsOn c.buf)), Rc.d (D.sl (rowsOn c.rsb)), Rc.d (D.int IntKind.i64 c.fin)], Sum.inl (Rc.new (2 : Nat) R)])))
    (VC.need ((0 : Int) ≤ k ∧ k < (↑(List.length (rowsOn l)) : Int) ∧ List.length (rowAt (rowsOn l) (Int.toNat k)) = (1 : Nat))
    (VC.need (okSh [Kd.int IntKind.i64] (rowAt (rowsOn l) (Int.toNat k)))
    (VC.need ((↑(List.length (rowsOn y6)) : Int) ≠ (0 : Int))
    (VC.need ((0 : Int) ≤ Int.tmod (bits BinOp.and IntKind.i64 (asInt (List.getD (rowAt (rowsOn l) (Int.toNat k)) (0 : Nat) D.nilp)) (65535 : Int)) (↑(List.length (rowsOn y6)) : Int) ∧ Int.tmod (bits BinOp.and IntKind.i64 (asInt (List.getD (rowAt (rowsOn l) (Int.toNat k)) (0 : Nat) D.nilp)) (65535 : Int)) (↑(List.length (rowsOn y6)) : Int) < (↑(List.length (rowsOn y6)) : Int) ∧ List.length (rowAt (rowsOn y6) (Int.toNat (Int.tmod (bits BinOp.and IntKind.i64 (asInt (List.getD (rowAt (rowsOn l) (Int.toNat k)) (0 : Nat) D.nilp)) (65535 : Int)) (↑(List.length (rowsOn y6)) : Int)))) = (2 : Nat))
    (VC.need (okSh [Kd.int IntKind.i64, Kd.int IntKind.i64] (rowAt (rowsOn y6) (Int.toNat (Int.tmod (bits BinOp.and IntKind.i64 (asInt (List.getD (rowAt (rowsOn l) (Int.toNat k)) (0 : Nat) D.nilp)) (65535 : Int)) (↑(List.length (rowsOn y6)) : Int)))))
    (VC.need ((List.all [[D.int IntKind.i64 (asInt (List.getD (rowAt (rowsOn y6) (Int.toNat (Int.tmod (bits BinOp.and IntKind.i64 (asInt (List.getD (rowAt (rowsOn l) (Int.toNat k)) (0 : Nat) D.nilp)) (65535 : Int)) (↑(List.length (rowsOn y6)) : Int)))) (0 : Nat) D.nilp)), D.int IntKind.i64 (asInt (List.getD (rowAt (rowsOn y6) (Int.toNat (Int.tmod (bits BinOp.and IntKind.i64 (asInt (List.getD (rowAt (rowsOn l) (Int.toNat k)) (0 : Nat) D.nilp)) (65535 : Int)) (↑(List.length (rowsOn y6)) : Int)))) (1 : Nat) D.nilp))]] fun r ↦ List.length r == (2 : Nat)) = true ∧ (List.all R fun r ↦ List.length r == (2 : Nat)) = true ∧ (List.length R + List.length [[D.int IntKind.i64 (asInt (List.getD (rowAt (rowsOn y6) (Int.toNat (Int.tmod (bits BinOp.and IntKind.i64 (asInt (List.getD (rowAt (rowsOn l) (Int.toNat k)) (0 : Nat) D.nilp)) (65535 : Int)) (↑(List.length (rowsOn y6)) : Int)))) (0 : Nat) D.nilp)), D.int IntKind.i64 (asInt (List.getD (rowAt (rowsOn y6) (Int.toNat (Int.tmod (bits BinOp.and IntKind.i64 (asInt (List.getD (rowAt (rowsOn l) (Int.toNat k)) (0 : Nat) D.nilp)) (65535 : Int)) (↑(List.length (rowsOn y6)) : Int)))) (1 : Nat) D.nilp))]] + (100 : Nat)) * (17 : Nat) ≤ (70368744177664 : Nat))
    (FnA.at_ a_wk 0 (F_wk p l y7.fst (List.length R + List.length [[D.int IntKind.i64 (asInt (List.getD (rowAt (rowsOn y6) (Int.toNat (Int.tmod (bits BinOp.and IntKind.i64 (asInt (List.getD (rowAt (rowsOn l) (Int.toNat k)) (0 : Nat) D.nilp)) (65535 : Int)) (↑(List.length (rowsOn y6)) : Int)))) (0 : Nat) D.nilp)), D.int IntKind.i64 (asInt (List.getD (rowAt (rowsOn y6) (Int.toNat (Int.tmod (bits BinOp.and IntKind.i64 (asInt (List.getD (rowAt (rowsOn l) (Int.toNat k)) (0 : Nat) D.nilp)) (65535 : Int)) (↑(List.length (rowsOn y6)) : Int)))) (1 : Nat) D.nilp))]]) (R ++ [[D.int IntKind.i64 (asInt (List.getD (rowAt (rowsOn y6) (Int.toNat (Int.tmod (bits BinOp.and IntKind.i64 (asInt (List.getD (rowAt (rowsOn l) (Int.toNat k)) (0 : Nat) D.nilp)) (65535 : Int)) (↑(List.length (rowsOn y6)) : Int)))) (0 : Nat) D.nilp)), D.int IntKind.i64 (asInt (List.getD (rowAt (rowsOn y6) (Int.toNat (Int.tmod (bits BinOp.and IntKind.i64 (asInt (List.getD (rowAt (rowsOn l) (Int.toNat k)) (0 : Nat) D.nilp)) (65535 : Int)) (↑(List.length (rowsOn y6)) : Int)))) (1 : Nat) D.nilp))]]) (IntKind.wrap IntKind.i64 (k + (1 : Int))))))))))))))))))))))
  (VC.ret (some (RR.tup [Sum.inr [Rc.d (D.int IntKind.i64 c.st.r0), Rc.d (D.int IntKind.i64 c.st.r1), Rc.d (D.int IntKind.i64 c.st.r2), Rc.d (D.int IntKind.i64 c.st.r3), Rc.d (D.sl (rowsOn c.st.mem)), Rc.d (D.sl (rowsOn c.st.stack)), Rc.d (D.int IntKind.i64 c.st.pc), Rc.d (D.sl (rowsOn c.buf)), Rc.d (D.sl (rowsOn c.rsb)), Rc.d (D.int IntKind.i64 c.fin)], Sum.inl (Rc.new (2 : Nat) R)]))))
 (VC.ret (some (RR.tup [Sum.inr [Rc.d (D.int IntKind.i64 c.st.r0), Rc.d (D.int IntKind.i64 c.st.r1), Rc.d (D.int IntKind.i64 c.st.r2), Rc.d (D.int IntKind.i64 c.st.r3), Rc.d (D.sl (rowsOn c.st.mem)), Rc.d (D.sl (rowsOn c.st.stack)), Rc.d (D.int IntKind.i64 c.st.pc), Rc.d (D.sl (rowsOn c.buf)), Rc.d (D.sl (rowsOn c.rsb)), Rc.d (D.int IntKind.i64 c.fin)], Sum.inl (Rc.new (2 : Nat) R)])))) := by kernel_rfl
end Go.Proofs.Ytmhfhobaicklmaa.Ax
end

section
/- The machine that guesses, by the document: what holds wherever it comes to. -/
namespace Go.Proofs.Ytmhfhobaicklmaa.Ax
open Go.RowKit
set_option linter.unusedVariables false
set_option linter.unusedSimpArgs false
def EntOkE (p : Prg) (m : Int) (s : List Int) (l : List Ent) (k : Nat) (e : Ent) : Prop :=
  ((atS p.ins e.pc).kind = 3 → e.known = true → e.fault = false → 0 ≤ e.addr ∧ e.addr < m) ∧
  ((atS p.ins e.pc).kind = 9 → e.done = true → e.fault = false → ∃ out, realK p l k s = some out ∧ out ≠ [])
theorem realK_pcs (p : Prg) (l l' : List Ent) (s : List Int) : ∀ k : Nat, (∀ j : Nat, j < k → (rd l' (j : Int)).pc = (rd l (j : Int)).pc) → realK p l' k s = realK p l k s
  | 0, _ => rfl
  | k + 1, h => by
    have ih := realK_pcs p l l' s k fun j hj => h j (by omega)
    unfold realK
    rw [ih, h k (by omega)]
theorem mach_mod {n : Int} {p : Prg} {c : Conf} (hm : Mach n p c) {l' : List Ent} {st' : Sta} (h1 : l'.length ≤ c.buf.length) (h2 : ∀ k : Nat, k < l'.length → (rd l' (k : Int)).pc = (rd c.buf (k : Int)).pc) (h3 : ∀ k : Nat, k < l'.length → rd l' (k : Int) = rd c.buf (k : Int) ∨ EntOkE p c.st.mem.length c.st.stack c.buf k (rd l' (k : Int))) (h4 : st'.mem.length = c.st.mem.length) (h5 : st'.stack = c.st.stack) : Mach n p ⟨st', l', c.rsb, c.fin⟩ := by
  obtain ⟨⟨b1, b2, b3, b4⟩, b5⟩ := hm
  refine ⟨⟨by dsimp only; omega, b2, by dsimp only; rw [h5]; exact b3, by dsimp only; omega⟩, fun k hk => ?_⟩
  have hk : k < l'.length := hk
  have er := realK_pcs p c.buf l' c.st.stack k fun j hj => h2 j (by omega)
  have key : EntOkE p c.st.mem.length c.st.stack c.buf k (rd l' (k : Int)) := by
    rcases h3 k hk with h | h
    · rw [h]; exact b5 k (by omega)
    · exact h
  show EntOkE p st'.mem.length st'.stack l' k (rd l' (k : Int))
  rw [h4, h5]
  refine ⟨key.1, fun q d f => ?_⟩
  rw [er]
  exact key.2 q d f
theorem rd_set_neK (l : List Ent) (i k : Nat) (e : Ent) (h : i ≠ k) (hk : k < l.length) : rd (l.set i e) (k : Int) = rd l (k : Int) := by
  rw [rd_getE _ k (by rw [List.length_set]; exact hk), rd_getE _ k hk, List.getElem_set_ne h]
theorem rd_set_eq (l : List Ent) (k : Nat) (e : Ent) (hk : k < l.length) : rd (l.set k e) (k : Int) = e := by
  rw [rd_getE _ k (by rw [List.length_set]; exact hk), List.getElem_set_self]
theorem rd_takeN (l : List Ent) (m k : Nat) (h : k < (l.take m).length) : rd (l.take m) (k : Int) = rd l (k : Int) := by
  have := List.length_take_le m l
  have h2 : k < l.length := by rw [List.length_take] at h; omega
  rw [rd_getE _ k h, rd_getE _ k h2, List.getElem_take]
theorem mach_set_take {n : Int} {p : Prg} {c : Conf} (hm : Mach n p c) {i : Int} (h0 : 0 ≤ i) (h1 : i < c.buf.length) {e : Ent} (hp : e.pc = (rd c.buf i).pc) (he : EntOkE p c.st.mem.length c.st.stack c.buf i.toNat e) (m : Nat) {st' : Sta} (h4 : st'.mem.length = c.st.mem.length) (h5 : st'.stack = c.st.stack) : Mach n p ⟨st', (c.buf.set i.toNat e).take m, c.rsb, c.fin⟩ := by
  have hl : ((c.buf.set i.toNat e).take m).length ≤ c.buf.length := by rw [List.length_take, List.length_set]; omega
  refine mach_mod hm hl (fun k hk => ?_) (fun k hk => ?_) h4 h5
  · rw [rd_takeN _ m k hk]
    by_cases h : i.toNat = k
    · rw [← h, rd_set_eq _ _ _ (by omega), hp, Int.toNat_of_nonneg h0]
    · rw [rd_set_neK _ _ _ _ h (by omega)]
  · rw [rd_takeN _ m k hk]
    by_cases h : i.toNat = k
    · rw [← h, rd_set_eq _ _ _ (by omega)]; exact .inr he
    · rw [rd_set_neK _ _ _ _ h (by omega)]; exact .inl rfl
theorem mach_put {n : Int} {p : Prg} {c : Conf} (hm : Mach n p c) {i : Int} (h0 : 0 ≤ i) (h1 : i < c.buf.length) {e : Ent} (hp : e.pc = (rd c.buf i).pc) (he : EntOkE p c.st.mem.length c.st.stack c.buf i.toNat e) : Mach n p (putC c i e) := by
  have := mach_set_take hm h0 h1 hp he (c.buf.length) (st' := c.st) rfl rfl
  rw [List.take_of_length_le (by rw [List.length_set]; exact Nat.le_refl _)] at this
  exact this
theorem mach_le {n m : Int} {p : Prg} {c : Conf} (hm : Mach n p c) (h : n ≤ m) : Mach m p c := by
  obtain ⟨⟨b1, b2, b3, b4⟩, b5⟩ := hm
  exact ⟨⟨by omega, by omega, by omega, b4⟩, b5⟩
theorem mach_goes {n : Int} {p : Prg} {c : Conf} (hm : Mach n p c) {i : Int} (h0 : 0 ≤ i) (h1 : i < c.buf.length) {e : Ent} (hp : e.pc = (rd c.buf i).pc) (he : EntOkE p c.st.mem.length c.st.stack c.buf i.toNat e) (to : Int) : Mach n p (goesC c i e to).1 := by
  unfold goesC
  split
  · exact mach_put hm h0 h1 hp he
  · exact mach_set_take hm h0 h1 (e := { e with next := to }) hp he _ rfl rfl
theorem ent_not {p : Prg} {m : Int} {s : List Int} {l : List Ent} {k : Nat} {e : Ent} (h3 : (atS p.ins e.pc).kind ≠ 3) (h9 : (atS p.ins e.pc).kind ≠ 9) : EntOkE p m s l k e := ⟨fun q => absurd q h3, fun q => absurd q h9⟩
theorem ent_fault {p : Prg} {m : Int} {s : List Int} {l : List Ent} {k : Nat} {e : Ent} (h : e.fault = true) : EntOkE p m s l k e := ⟨fun _ _ q => absurd (h.symm.trans q) (by decide), fun _ _ q => absurd (h.symm.trans q) (by decide)⟩
theorem mach_do {n : Int} {p : Prg} {c : Conf} (hm : Mach n p c) (i : Int) (h : (r9doS p c i).2.2 = true) : Mach n p (r9doS p c i).1 := by
  unfold r9doS at h ⊢
  by_cases hc : canS p c i = false
  · rw [if_pos hc] at h; cases h
  rw [if_neg hc]
  have hc : canS p c i = true := by cases hq : canS p c i with | true => rfl | false => exact absurd hq hc
  obtain ⟨h0, h1⟩ := can_in hc
  have old : EntOkE p c.st.mem.length c.st.stack c.buf i.toNat (rd c.buf i) := by
    have := hm.2 i.toNat (by omega)
    unfold EntOk at this
    rw [Int.toNat_of_nonneg h0] at this
    exact this
  have h1' := h1
  generalize toldC p c i (atS p.ins (rd c.buf i).pc) = t
  generalize hx : atS p.ins (rd c.buf i).pc = x at old ⊢
  unfold doneS
  have nn : ∀ e : Ent, e.pc = (rd c.buf i).pc → x.kind ≠ 3 → x.kind ≠ 9 → EntOkE p c.st.mem.length c.st.stack c.buf i.toNat e := fun e he a b => ent_not (by rw [he, hx]; exact a) (by rw [he, hx]; exact b)
  split
  · rename_i k; exact mach_put hm h0 h1 rfl (nn _ rfl (by omega) (by omega))
  split
  · rename_i k; exact mach_put hm h0 h1 rfl (nn _ rfl (by omega) (by omega))
  split
  · rename_i k
    refine mach_put hm h0 h1 rfl ⟨fun q d f => old.1 (by rw [hx]; exact k) d f, fun q d f => ?_⟩
    rw [hx] at q; omega
  split
  · rename_i k
    split
    · exact mach_put hm h0 h1 rfl (nn _ rfl (by omega) (by omega))
    · exact mach_put hm h0 h1 rfl (nn _ rfl (by omega) (by omega))
  split
  · rename_i k; exact mach_goes hm h0 h1 (e := { rd c.buf i with done := true }) rfl (nn _ rfl (by omega) (by omega)) _
  split
  · rename_i k; exact mach_goes hm h0 h1 (e := { rd c.buf i with done := true }) rfl (nn _ rfl (by omega) (by omega)) _
  split
  · rename_i k9
    have ec : (cutS c.buf i).length = i.toNat := by have := cutS_len2 c.buf i; omega
    rw [ec]
    split
    · exact mach_put hm h0 h1 rfl (ent_fault rfl)
    · rename_i l hl
      split
      · exact mach_put hm h0 h1 rfl (ent_fault rfl)
      · rename_i hne
        refine mach_goes hm h0 h1 (e := { rd c.buf i with done := true }) rfl ⟨fun q _ _ => ?_, fun _ _ _ => ⟨l, hl, fun e => hne (by rw [e]; rfl)⟩⟩ _
        replace q : (atS p.ins (rd c.buf i).pc).kind = 3 := q
        rw [hx] at q; omega
  · exact mach_put hm h0 h1 rfl (nn _ rfl (by omega) (by omega))
theorem mach_addr {n : Int} {p : Prg} {c : Conf} (hm : Mach n p c) (i : Int) (h : (r9addrS p c i).2.2 = true) : Mach n p (r9addrS p c i).1 := by
  unfold r9addrS at h ⊢
  by_cases hc : canAS p c i = false
  · rw [if_pos hc] at h; cases h
  rw [if_neg hc]
  have hc : canAS p c i = true := by cases hq : canAS p c i with | true => rfl | false => exact absurd hq hc
  obtain ⟨h0, h1⟩ := canA_in hc
  have k3 : (atS p.ins (rd c.buf i).pc).kind = 3 := by
    unfold canAS at hc
    split at hc
    · cases hc
    · have := (Bool.and_eq_true _ _ ▸ hc).1
      exact eq_of_beq this
  generalize hy : addrV p c i (atS p.ins (rd c.buf i).pc) = y
  have y0 : 0 ≤ y := by rw [← hy]; exact (maskS_range _ _).1
  have n9 : ∀ e : Ent, e.pc = (rd c.buf i).pc → (atS p.ins e.pc).kind ≠ 9 := fun e he => by rw [he]; omega
  unfold addrC
  split
  · exact mach_put hm h0 h1 rfl (ent_fault rfl)
  · rename_i hlt
    have ok : EntOkE p c.st.mem.length c.st.stack c.buf i.toNat { rd c.buf i with addr := y, known := true } := ⟨fun _ _ _ => ⟨y0, by dsimp only; omega⟩, fun q => absurd q (n9 _ rfl)⟩
    split
    · exact mach_set_take hm h0 h1 (e := { rd c.buf i with addr := y, known := true }) rfl ok _ rfl rfl
    · exact mach_put hm h0 h1 rfl ok
theorem mach_fet {n : Int} {p : Prg} {c : Conf} (hm : Mach n p c) (g : Int) (h : (fetC p c g).2 = true) : Mach (n + 1) p (fetC p c g).1 := by
  unfold fetC at h ⊢
  by_cases hg : g < 0 ∨ guessS p c ≤ g
  · rw [if_pos hg] at h; cases h
  rw [if_neg hg]
  obtain ⟨⟨b1, b2, b3, b4⟩, b5⟩ := id hm
  show Mach (n + 1) p ⟨⟨c.st.r0, c.st.r1, c.st.r2, c.st.r3, c.st.mem, c.st.stack, (fetE p c g).1.next⟩, c.buf ++ [(fetE p c g).1], (fetE p c g).2, c.fin⟩
  have key : ((fetE p c g).2.length : Int) ≤ n + 1 ∧ (fetE p c g).1.known = false ∧ ((fetE p c g).1.done = true → (atS p.ins (fetE p c g).1.pc).kind ≠ 9) := by
    unfold fetE
    repeat' split
    all_goals first
      | exact ⟨by dsimp only; omega, rfl, fun q => absurd q Bool.false_ne_true⟩
      | exact ⟨by dsimp only; omega, rfl, fun _ => by dsimp only; omega⟩
      | exact ⟨by dsimp only; rw [List.length_take]; omega, rfl, fun q => absurd q Bool.false_ne_true⟩
      | exact ⟨by dsimp only [pushS]; simp; omega, rfl, fun _ => by dsimp only; omega⟩
  exact mach_app hm _ _ _ key.1 key.2.1 key.2.2
end Go.Proofs.Ytmhfhobaicklmaa.Ax
end

section
/- The machine that guesses, by the document: what holds is kept by committing; walking. -/
namespace Go.Proofs.Ytmhfhobaicklmaa.Ax
open Go.RowKit
set_option linter.unusedVariables false
set_option linter.unusedSimpArgs false
def stepK (p : Prg) (e : Ent) (s : List Int) : Option (List Int) :=
  if (atS p.ins e.pc).kind = 8 then (if 4 ≤ s.length then none else some (s ++ [IntKind.wrap .i64 (e.pc + 1)]))
  else if (atS p.ins e.pc).kind = 9 then (if s.length = 0 then none else some s.dropLast) else some s
theorem realK_bind (p : Prg) (l : List Ent) (k : Nat) (s : List Int) : realK p l (k + 1) s = (realK p l k s).bind (stepK p (rd l (k : Int))) := by
  show (match realK p l k s with | none => none | some out => _) = _
  cases realK p l k s <;> rfl
theorem popE_pc (e : Ent) : (popE e).pc = e.pc ∧ (popE e).addr = e.addr ∧ (popE e).known = e.known ∧ (popE e).done = e.done ∧ (popE e).fault = e.fault := by
  unfold popE
  split <;> exact ⟨rfl, rfl, rfl, rfl, rfl⟩
theorem rd_popS (l : List Ent) (k : Nat) (h : k + 1 < l.length) : rd (popS l) (k : Int) = popE (rd l ((k + 1 : Nat) : Int)) := by
  have hl := popS_len l
  rw [rd_getE _ k (by omega), rd_getE _ (k + 1) h]
  unfold popS
  rw [List.getElem_map, List.getElem_drop]
  congr 1
  congr 1
  omega
theorem realK_pop (p : Prg) (l : List Ent) (s : List Int) : ∀ k : Nat, k + 1 ≤ l.length → realK p l (k + 1) s = (stepK p (rd l 0) s).bind (realK p (popS l) k)
  | 0, h => by
    rw [realK_bind]
    show stepK p (rd l 0) s = _
    cases stepK p (rd l 0) s <;> rfl
  | k + 1, h => by
    rw [realK_bind, realK_pop p l s k (by omega), Option.bind_assoc]
    congr 1
    funext x
    rw [realK_bind, rd_popS l k (by omega)]
    have e := (popE_pc (rd l ((k + 1 : Nat) : Int))).1
    congr 1
    funext y
    unfold stepK
    rw [e]
theorem mach_pop {n : Int} {p : Prg} {c : Conf} (hm : Mach n p c) (hb : 0 < c.buf.length) {st' : Sta} (h4 : st'.mem.length = c.st.mem.length) (h5 : ∀ out, stepK p (rd c.buf 0) c.st.stack = some out → out = st'.stack) (h6 : (st'.stack.length : Int) ≤ n + 1) : Mach (n + 1) p ⟨st', popS c.buf, c.rsb, c.fin⟩ := by
  obtain ⟨⟨b1, b2, b3, b4⟩, b5⟩ := hm
  have hl := popS_len c.buf
  refine ⟨⟨by dsimp only; omega, by dsimp only; omega, h6, by dsimp only; omega⟩, fun k hk => ?_⟩
  have hk : k < (popS c.buf).length := hk
  have hk1 : k + 1 < c.buf.length := by omega
  have old : EntOkE p c.st.mem.length c.st.stack c.buf (k + 1) (rd c.buf ((k + 1 : Nat) : Int)) := b5 (k + 1) hk1
  show EntOkE p st'.mem.length st'.stack (popS c.buf) k (rd (popS c.buf) (k : Int))
  rw [rd_popS _ k hk1, h4]
  obtain ⟨e1, e2, e3, e4, e5⟩ := popE_pc (rd c.buf ((k + 1 : Nat) : Int))
  refine ⟨?_, ?_⟩
  · rw [e1, e2, e3, e5]; exact old.1
  · rw [e1, e4, e5]
    intro q d f
    obtain ⟨out, ho, hne⟩ := old.2 q d f
    rw [realK_pop p c.buf c.st.stack k (by omega)] at ho
    refine ⟨out, ?_, hne⟩
    cases hs : stepK p (rd c.buf 0) c.st.stack with
    | none => rw [hs] at ho; cases ho
    | some o =>
      rw [hs] at ho
      rw [← h5 o hs]
      exact ho
theorem setReg_ms (s : Sta) (r v : Int) : (s.setReg r v).mem = s.mem ∧ (s.setReg r v).stack = s.stack := by
  unfold Sta.setReg
  repeat' split
  all_goals exact ⟨rfl, rfl⟩
theorem mach_end {n : Int} {p : Prg} {c : Conf} (hm : Mach n p c) (pc e : Int) : Mach (n + 1) p ⟨{ c.st with pc := pc }, [], [], e⟩ := by
  obtain ⟨⟨b1, b2, b3, b4⟩, b5⟩ := hm
  exact ⟨⟨by dsimp only [List.length_nil]; omega, by dsimp only [List.length_nil]; omega, by dsimp only; omega, b4⟩, fun k hk => absurd hk (Nat.not_lt_zero k)⟩
theorem mach_ret {n : Int} {p : Prg} {c : Conf} (hm : Mach n p c) (h : (r9retS p c).2 = true) : Mach (n + 1) p (r9retS p c).1 := by
  unfold r9retS at h ⊢
  by_cases hc : canRS p c = false
  · rw [if_pos hc] at h; cases h
  rw [if_neg hc]
  have hc : canRS p c = true := by cases hq : canRS p c with | true => rfl | false => exact absurd hq hc
  have hb := (canR_in hc).2
  have b3 := hm.1.2.2.1
  have st : ∀ out, (atS p.ins (rd c.buf 0).pc).kind ≠ 8 → (atS p.ins (rd c.buf 0).pc).kind ≠ 9 → stepK p (rd c.buf 0) c.st.stack = some out → out = c.st.stack := fun out a b q => by
    unfold stepK at q
    rw [if_neg a, if_neg b] at q
    exact (Option.some.inj q).symm
  unfold comC
  split
  · exact mach_end hm _ _
  split
  · exact mach_end hm _ _
  split
  · rename_i k
    obtain ⟨m1, m2⟩ := setReg_ms c.st ((atS p.ins (rd c.buf 0).pc).d % 4) (rd c.buf 0).val
    exact mach_pop hm hb (by rw [m1]) (fun out q => by rw [m2]; exact st out (by omega) (by omega) q) (by rw [m2]; omega)
  split
  · rename_i k
    exact mach_pop hm hb (by dsimp only; rw [List.length_set]) (fun out q => st out (by omega) (by omega) q) (by dsimp only; omega)
  split
  · rename_i k
    refine mach_pop hm hb rfl (fun out q => ?_) (by dsimp only; rw [List.length_append, List.length_singleton]; omega)
    unfold stepK at q
    rw [if_pos k] at q
    split at q
    · cases q
    · exact (Option.some.inj q).symm
  split
  · rename_i k
    refine mach_pop hm hb rfl (fun out q => ?_) (by dsimp only; rw [List.length_dropLast]; omega)
    unfold stepK at q
    rw [if_neg (by omega), if_pos k] at q
    split at q
    · cases q
    · exact (Option.some.inj q).symm
  · exact mach_pop hm hb rfl (fun out q => st out (by omega) (by omega) q) (by omega)
theorem mach_retok {n : Int} {p : Prg} {c : Conf} (hm : Mach n p c) : RetOk p c := by
  intro hc hf
  obtain ⟨f0, b0⟩ := canR_in hc
  have old : EntOkE p c.st.mem.length c.st.stack c.buf 0 (rd c.buf 0) := hm.2 0 b0
  unfold canRS at hc
  rw [if_neg (by rintro (q | q); · exact q f0
                 · omega)] at hc
  rw [Bool.and_eq_true] at hc
  obtain ⟨h1, h2⟩ := hc
  refine ⟨fun k3 => old.1 k3 ?_ hf, fun k9 => ?_⟩
  · rw [k3] at h2
    simpa using h2
  · rw [k9] at h1
    have hd : (rd c.buf 0).done = true := by simpa using h1
    obtain ⟨out, ho, hne⟩ := old.2 k9 hd hf
    have ho : some c.st.stack = some out := ho
    intro hl
    refine hne ?_
    rw [← Option.some.inj ho]
    exact List.length_eq_zero_iff.1 hl
theorem mach_say {n : Int} {p : Prg} {c : Conf} (hm : Mach n p c) (d : Dir) (h : (sayS p c d).2.2 = true) : Mach (n + 1) p (sayS p c d).1 := by
  unfold sayS at h ⊢
  by_cases k1 : d.kind = 1
  · rw [if_pos k1] at h ⊢; exact mach_fet hm _ h
  rw [if_neg k1] at h ⊢
  by_cases k2 : d.kind = 2
  · rw [if_pos k2] at h ⊢; exact mach_le (mach_do hm _ h) (by omega)
  rw [if_neg k2] at h ⊢
  by_cases k3 : d.kind = 3
  · rw [if_pos k3] at h ⊢; exact mach_le (mach_addr hm _ h) (by omega)
  rw [if_neg k3] at h ⊢
  by_cases k4 : d.kind = 4 ∧ d.n = 0
  · rw [if_pos k4] at h ⊢; exact mach_ret hm h
  rw [if_neg k4] at h
  cases h
/-- What a walk says next. -/
def wkD (A : List Dir) (x : Int) : Dir := rd A (Int.tmod (bits .and .i64 x 65535) A.length)
def walkF (p : Prg) (l : List Int) : Nat → Int → Conf → List Dir → Conf × List Dir
  | 0, _, c, acc => (c, acc)
  | m + 1, k, c, acc =>
    if k < l.length then
      if (allS p c).length = 0 then (c, acc)
      else if (sayS p c (wkD (allS p c) (rd l k))).2.2 = false then (c, acc)
      else walkF p l m (k + 1) (sayS p c (wkD (allS p c) (rd l k))).1 (acc ++ [wkD (allS p c) (rd l k)])
    else (c, acc)
def walkS (p : Prg) (s : Sta) (l : List Int) : Conf × List Dir := walkF p l 60 0 (begC s) []
theorem mach_beg {p : Prg} {s : Sta} (h1 : s.stack.length ≤ 1000) (h2 : s.mem.length ≤ 1000000) : Mach 1000 p (begC s) :=
  ⟨⟨by simp [begC], by simp [begC], by dsimp only [begC]; omega, h2⟩, fun k hk => absurd hk (Nat.not_lt_zero k)⟩
theorem walkF_mach (p : Prg) (l : List Int) : ∀ (m : Nat) (k : Int) (c : Conf) (acc : List Dir) (n : Int), Mach n p c → Mach (n + m) p (walkF p l m k c acc).1
  | 0, k, c, acc, n, h => mach_le h (by omega)
  | m + 1, k, c, acc, n, h => by
    unfold walkF
    split
    · split
      · exact mach_le h (by omega)
      · split
        · exact mach_le h (by omega)
        · rename_i hq
          have h2 := mach_say h (wkD (allS p c) (rd l k)) (by cases hs : (sayS p c (wkD (allS p c) (rd l k))).2.2 with | true => rfl | false => exact absurd hs hq)
          exact mach_le (walkF_mach p l m _ _ _ _ h2) (by omega)
    · exact mach_le h (by omega)
theorem walk_mach {p : Prg} {s : Sta} (l : List Int) (h1 : s.stack.length ≤ 1000) (h2 : s.mem.length ≤ 1000000) : Mach 1060 p (walkS p s l).1 := walkF_mach p l 60 0 (begC s) [] 1000 (mach_beg h1 h2)
end Go.Proofs.Ytmhfhobaicklmaa.Ax
end

section
/- The machine that guesses, by the document: walking. -/
namespace Go.Proofs.Ytmhfhobaicklmaa.Ax
open Go.RowKit
set_option linter.unusedVariables false
set_option linter.unusedSimpArgs false
def rwk (x : Conf × List Dir) : RR := .tup [.inr (x.1.cells.map .d), .inl (.d (.sl (rowsOn x.2)))]
theorem wk_leaf {c : Conf} {R : List (List D)} {n : Nat} {acc : List Dir} (h : OnL R n acc) : (RR.tup [.inr (c.cells.map .d), .inl (.new 2 R)]).data.le (rwk (c, acc)) := by
  rw [h.1]
  exact RR.le_refl _
theorem l_wk (p : Prg) (l : List Int) (fin : Conf × List Dir) (hq : p.ins.length ≤ 1000000) : ∀ i_ : Int × Conf × Nat × List (List D), (fun (v : Int × Conf × Nat × List (List D)) => 0 ≤ v.1 ∧ v.1 ≤ 60 ∧ Mach (1000 + v.1) p v.2.1 ∧ ∃ acc : List Dir, OnL v.2.2.2 v.2.2.1 acc ∧ (acc.length : Int) ≤ v.1 ∧ walkF p l (60 - v.1).toNat v.1 v.2.1 acc = fin) i_ → (a_wk.at_ 0 ((fun (v : Int × Conf × Nat × List (List D)) => F_wk p l v.2.1 v.2.2.1 v.2.2.2 v.1) i_)).holds s_wk.cx a_wk.rs (fun r => r.data.le (rwk fin)) := by
  refine loop_rule (a := a_wk) (j := 0) (m := 400) s_wk_sound (fun (v : Int × Conf × Nat × List (List D)) => F_wk p l v.2.1 v.2.2.1 v.2.2.2 v.1) (fun (v : Int × Conf × Nat × List (List D)) => 0 ≤ v.1 ∧ v.1 ≤ 60 ∧ Mach (1000 + v.1) p v.2.1 ∧ ∃ acc : List Dir, OnL v.2.2.2 v.2.2.1 acc ∧ (acc.length : Int) ≤ v.1 ∧ walkF p l (60 - v.1).toNat v.1 v.2.1 acc = fin) (fun (v : Int × Conf × Nat × List (List D)) => (60 - v.1).toNat) ?_
  rintro ⟨k, c, n, R⟩ h_inv ih
  try dsimp only at h_inv
  replace ih := fun (v0 : Int) (v1 : Conf) (v2 : Nat) (v3 : List (List D)) => ih (v0, v1, v2, v3)
  try dsimp only at ih
  show VC.holds _ _ _ (a_wk.round s_wk 400 0 (F_wk p l c n R k))
  rw [t_wk0]
  try simp only [asRows_sl, asInt_int, asBool_bool, asStr_str, listOf_rowsOn, List.drop_zero, Prg.eta, Sta.eta, rowsOn_length, getD_drop, Nat.reduceAdd, rd_int, rd_PMem_name, rd_PMem_secret, rd_PMem_n, rd_PLabel_name, rd_PLabel_at_, rd_Ins_kind, rd_Ins_op, rd_Ins_d, rd_Ins_aR, rd_Ins_aN, rd_Ins_bR, rd_Ins_bN, rd_Ins_name, rd_Ins_target, rd_Ent_pc, rd_Ent_val, rd_Ent_addr, rd_Ent_fro, rd_Ent_next, rd_Ent_done, rd_Ent_known, rd_Ent_fault, rd_Place_reg, rd_Place_n, rd_Place_secret, rd_Obs_kind, rd_Obs_at_, rd_Dir_kind, rd_Dir_n, Prg.of_cells, Sta.of_cells]
  obtain ⟨k0, k1, hm, acc, h1, h2, h3⟩ := h_inv
  have k0 : 0 ≤ k := k0
  have k1 : k ≤ 60 := k1
  have w1 : IntKind.wrap .i64 (k + 1) = k + 1 := wrap_small _ (by omega) (by omega)
  obtain ⟨⟨b1, b2, b3, b4⟩, b5⟩ := id hm
  have b1 : (c.buf.length : Int) ≤ 1000 + k := b1
  have b2 : (c.rsb.length : Int) ≤ 1000 + k := b2
  have b3 : (c.st.stack.length : Int) ≤ 1000 + k := b3
  have h2 : (acc.length : Int) ≤ k := h2
  have h3 : walkF p l (60 - k).toNat k c acc = fin := h3
  have leaf : (c, acc) = fin → (RR.tup [.inr (c.cells.map .d), .inl (.new 2 R)]).data.le (rwk fin) := fun e => by rw [← e]; exact wk_leaf h1
  simp only [w1, Conf.of_mk, Prg.of_cells, rowsOn_length]
  refine br_dec (fun hk => br_dec (fun hk2 => ?_) (fun hk2 => ret_leD (leaf ?_))) (fun hk => ret_leD (leaf ?_))
  · obtain ⟨m, hmm⟩ : ∃ m, (60 - k).toNat = m + 1 := ⟨(60 - k).toNat - 1, by omega⟩
    have hm2 : m = (60 - (k + 1)).toNat := by omega
    rw [hmm] at h3
    unfold walkF at h3
    rw [if_pos hk] at h3
    refine ⟨PreOk.mk ⟨hq, by dsimp only; omega⟩ rfl, all_holds fun A hA => ?_⟩
    replace hA : A = allS p c := hA
    rw [← hA] at h3
    refine br_beq (fun h0 => ret_leD (leaf ?_)) (fun h0 => ?_)
    · rw [if_pos (by omega)] at h3; exact h3
    rw [if_neg (by omega)] at h3
    have ex : asInt (List.getD (rowAt (rowsOn l) k.toNat) 0 D.nilp) = rd l k := by rw [rowAt_on l k k0 hk]; rfl
    have sl1 : (rowAt (rowsOn l) k.toNat).length = 1 := by rw [rowAt_on l k k0 hk]; rfl
    have sl2 : okSh [Kd.int .i64] (rowAt (rowsOn l) k.toNat) := by rw [rowAt_on l k k0 hk]; rfl
    have hM : bits .and .i64 (rd l k) 65535 = rd l k % 65536 := and_mask (rd l k) 16 (by decide)
    have hpos : (0 : Int) < (A.length : Int) := Int.ofNat_lt.2 (show 0 < A.length by omega)
    have x0 : 0 ≤ Int.tmod (bits .and .i64 (rd l k) 65535) A.length := by rw [hM]; exact Int.tmod_nonneg _ (by omega)
    have x1 : Int.tmod (bits .and .i64 (rd l k) 65535) A.length < A.length := Int.tmod_lt_of_pos _ hpos
    have ed : wkD A (rd l k) = rd A (Int.tmod (bits .and .i64 (rd l k) 65535) A.length) := rfl
    generalize Int.tmod (bits .and .i64 (rd l k) 65535) A.length = ix at x0 x1 ed ⊢
    have er : rowAt (rowsOn A) ix.toNat = row (rd A ix) := rowAt_on A ix x0 x1
    rw [ed] at h3
    generalize rd A ix = d at er h3
    have d0 : asInt (List.getD (rowAt (rowsOn A) ix.toNat) 0 D.nilp) = d.kind := by rw [er]; rfl
    have d1 : asInt (List.getD (rowAt (rowsOn A) ix.toNat) 1 D.nilp) = d.n := by rw [er]; rfl
    have dl : (rowAt (rowsOn A) ix.toNat).length = 2 := by rw [er]; rfl
    have ds : okSh [Kd.int .i64, Kd.int .i64] (rowAt (rowsOn A) ix.toNat) := by rw [er]; rfl
    refine ⟨⟨k0, hk, sl1⟩, sl2, h0, ⟨x0, x1, dl⟩, ds, PreOk.mk ⟨hq, by dsimp only; omega, by dsimp only; omega, by dsimp only; omega, b4, fun _ => mach_retok hm⟩ rfl, all_holds fun y hy => br_not (br_holds (fun hs => ?_) (fun hs => ret_leD (leaf ?_)))⟩
    · replace hy : y = sayS p c d := hy
      rw [← hy, if_neg (by rw [hs]; simp), hm2] at h3
      refine ⟨⟨k0, hk, sl1⟩, sl2, h0, ⟨x0, x1, dl⟩, ds, app_ok h1 rfl rfl (by simp only [List.length_cons, List.length_nil]; omega), ih _ _ _ _ ⟨by omega, by omega, ?_, acc ++ [d], h1.snoc d, by rw [List.length_append, List.length_singleton]; omega, h3⟩ (by omega)⟩
      have := mach_say hm d (by rw [← hy]; exact hs)
      rw [hy]
      exact mach_le this (by omega)
    · replace hy : y = sayS p c d := hy
      rw [← hy, if_pos hs] at h3
      exact h3
  · have e0 : (60 - k).toNat = 0 := by omega
    rw [e0] at h3; exact h3
  · cases hz : (60 - k).toNat with
    | zero => rw [hz] at h3; exact h3
    | succ m =>
      rw [hz] at h3
      unfold walkF at h3
      rw [if_neg hk] at h3; exact h3
def rdWk : List A → Prg × Sta × List Int
  | [.agg q, .agg s, .c (.sl l)] => (Prg.of q, Sta.of s, listOf Int l)
  | _ => default
def c_wk : FT (Prg × Sta × List Int) := ⟨13, fun x => [ap x.1, .agg x.2.1.cells, al x.2.2], rdWk, fun x => x.1.ins.length ≤ 1000000 ∧ x.2.1.stack.length ≤ 1000 ∧ x.2.1.mem.length ≤ 1000000, fun x => rwk (walkS x.1 x.2.1 x.2.2), true, fun x => by simp [ap, al, rdWk]⟩
theorem c_wk_good : c_wk.fe.Good Try.prog := by
  refine FT.good c_wk ⟨Try.f13, by kernel_rfl, by decide +kernel, by kernel_rfl⟩ (fun ⟨p, s, l⟩ => by first | rfl | simp [c_wk, rrRef, rD, rcb, rdo, rConfB, riiibb, rreal, riib, rE, rrun, rstep, rins, rnum, rby, rss, rnewI, rnewE, rstab, rplaces, ri, rb, rib, rwk, Sta.fresh]) fun ⟨p, s, l⟩ hp => ?_
  refine acalls_leD s_wk_sound (fn := Try.f13) (a := a_wk) (nargs := 3) (tbl := [(4, [2, 3, 6, 8, 9, 10, 1000009000000900001002])]) (by kernel_rfl) (by kernel_rfl) rfl (m := 400) ?_
  show VC.holds _ _ _ (a_wk.start s_wk 400 [ap p, .agg s.cells, al l])
  rw [t_wk]
  try simp only [asRows_sl, asInt_int, asBool_bool, asStr_str, listOf_rowsOn, List.drop_zero, Prg.eta, Sta.eta, rowsOn_length, getD_drop, Nat.reduceAdd, rd_int, rd_PMem_name, rd_PMem_secret, rd_PMem_n, rd_PLabel_name, rd_PLabel_at_, rd_Ins_kind, rd_Ins_op, rd_Ins_d, rd_Ins_aR, rd_Ins_aN, rd_Ins_bR, rd_Ins_bN, rd_Ins_name, rd_Ins_target, rd_Ent_pc, rd_Ent_val, rd_Ent_addr, rd_Ent_fro, rd_Ent_next, rd_Ent_done, rd_Ent_known, rd_Ent_fault, rd_Place_reg, rd_Place_n, rd_Place_secret, rd_Obs_kind, rd_Obs_at_, rd_Dir_kind, rd_Dir_n, Prg.of_cells, Sta.of_cells]
  try simp only [c_wk] at hp
  obtain ⟨hq, h1, h2⟩ := hp
  refine ⟨PreOk.mk trivial rfl, all_holds fun c hc => ?_⟩
  replace hc : c = begC s := hc
  subst hc
  exact l_wk p l (walkS p s l) hq (0, begC s, _, _) ⟨Int.le_refl 0, (by decide : (0 : Int) ≤ 60), mach_beg h1 h2, [], OnL.nil, by simp, rfl⟩
noncomputable def v_wk : Prg × Sta × List Int → Conf × List Dir := fun x => walkS x.1 x.2.1 x.2.2
noncomputable def sh_wk : Conf × List Dir → RR := fun x => rwk x
theorem e_wk (x : Prg × Sta × List Int) : sh_wk (v_wk x) = c_wk.ans x := rfl
end Go.Proofs.Ytmhfhobaicklmaa.Ax
end

section
/- reso.Reg, reso.Val and awake of layers 10, 11 in a program with no pairs. -/
namespace Go.Proofs.Ytmhfhobaicklmaa.Ax
open Go.RowKit
set_option linter.unusedVariables false
set_option linter.unusedSimpArgs false
def bkEnt (g : FuncId) : Option (Option Nat × List Kd) := if g = 87 then some (some 8, kdE) else none
theorem bkEnt_bk : BksOK Try.prog bkEnt := by
  intro g sh h
  unfold bkEnt at h
  split at h
  · rename_i hg; subst hg; cases h
    exact ⟨backE_ok, ⟨Try.f87, by kernel_rfl, by decide +kernel, by kernel_rfl⟩⟩
  · cases h
def c_reg : FT (Prg × Regs × List Ent × Int × Int) := ⟨16, fun x => [ap x.1, aRegs x.2.1, aE x.2.2.1, ai x.2.2.2.1, ai x.2.2.2.2], rdReg, fun x => x.2.2.1.length ≤ 1000000000, fun x => rib (regS x.1 x.2.1 x.2.2.1 x.2.2.2.1 x.2.2.2.2), false, fun x => by simp [ap, aRegs, aE, ai, rdReg]⟩
noncomputable def s_reg : Sp := spT [c_cut.fe, c_dest.gfe v_dest sh_dest e_dest, c_sAt.gfe v_sAt sh_sAt e_sAt, c_bkE.fe] bkEnt
theorem s_reg_sound : s_reg.sound Try.prog := spT_sound (hbk := bkEnt_bk) fun e he => by
  simp only [List.mem_cons, List.not_mem_nil, or_false] at he
  rcases he with rfl | rfl | rfl | rfl
  · exact c_cut_good
  · exact FT.gfe_good c_dest_good
  · exact FT.gfe_good c_sAt_good
  · exact c_bkE_good
set_option maxRecDepth 100000 in
theorem t_reg (p : Prg) (g : Regs) (l : List Ent) (i r : Int) : a_reg.start s_reg 400 [ap p, aRegs g, aE l, ai i, ai r] =
(VC.br (decide (r < (0 : Int)))
 (VC.ret (some (RR.tup [Sum.inl (Rc.d (D.int IntKind.i64 (0 : Int))), Sum.inl (Rc.d (D.bool false))])))
 (VC.br (decide ((4 : Int) ≤ r))
  (VC.ret (some (RR.tup [Sum.inl (Rc.d (D.int IntKind.i64 (0 : Int))), Sum.inl (Rc.d (D.bool false))])))
  (VC.need (PreOk c_cut (l, i) [A.c (D.sl (rowsOn l)), A.c (D.int IntKind.i64 i)])
  (VC.need (PreOk c_bkE (cutS l i, ()) [A.c (D.sl (rowsOn (cutS (listOf Ent (rowsOn l)) i)))])
  (VC.need (okBack (some (8 : Nat)) (rowsOn (listOf Ent (rowsOn (cutS (listOf Ent (rowsOn l)) i)))) = true)
  (FnA.bk a_reg 0 ((some (8 : Nat), [Kd.int IntKind.i64, Kd.int IntKind.i64, Kd.int IntKind.i64, Kd.int IntKind.i64, Kd.int IntKind.i64, Kd.bool, Kd.bool, Kd.bool])) (St.blk (B_reg p g r)) (rowsOn (listOf Ent (rowsOn (cutS (listOf Ent (rowsOn l)) i)))) (List.length (rowsOn (listOf Ent (rowsOn (cutS (listOf Ent (rowsOn l)) i))))) (F_reg p g (rowsOn l) i r (decide (r < (0 : Int))) (decide ((4 : Int) ≤ r)) (rowsOn (cutS (listOf Ent (rowsOn l)) i)) (rowsOn (listOf Ent (rowsOn (cutS (listOf Ent (rowsOn l)) i))))))))))) := by kernel_rfl
set_option maxRecDepth 100000 in
theorem t_reg0 (p : Prg) (g : Regs) (l : List (List D)) (i r : Int) (b c : Bool) (C Z : List (List D)) (L : List Ent) : a_reg.bkround s_reg 400 0 (some 8, kdE) (St.blk (B_reg p g r)) (rowsOn L) 0 (F_reg p g l i r b c C Z) =
(VC.br (decide (r = (0 : Int)))
 (VC.ret (some (RR.tup [Sum.inl (Rc.d (D.int IntKind.i64 g.r0)), Sum.inl (Rc.d (D.bool true))])))
 (VC.br (decide (r = (1 : Int)))
  (VC.ret (some (RR.tup [Sum.inl (Rc.d (D.int IntKind.i64 g.r1)), Sum.inl (Rc.d (D.bool true))])))
  (VC.br (decide (r = (2 : Int)))
   (VC.ret (some (RR.tup [Sum.inl (Rc.d (D.int IntKind.i64 g.r2)), Sum.inl (Rc.d (D.bool true))])))
   (VC.br (decide (r = (3 : Int)))
    (VC.ret (some (RR.tup [Sum.inl (Rc.d (D.int IntKind.i64 g.r3)), Sum.inl (Rc.d (D.bool true))])))
    VC.ff)))) := by kernel_rfl
set_option maxRecDepth 100000 in
theorem t_regS (p : Prg) (g : Regs) (l : List (List D)) (i r : Int) (b c : Bool) (C Z : List (List D)) (L : List Ent) (k : Nat) : a_reg.bkround s_reg 400 0 (some 8, kdE) (St.blk (B_reg p g r)) (rowsOn L) (Nat.succ k) (F_reg p g l i r b c C Z) =
(VC.need (k < List.length (rowsOn L) ∧ okSh [Kd.int IntKind.i64, Kd.int IntKind.i64, Kd.int IntKind.i64, Kd.int IntKind.i64, Kd.int IntKind.i64, Kd.bool, Kd.bool, Kd.bool] (rowAt (rowsOn L) k))
(VC.need (PreOk c_sAt (Prg.of (Prg.cells p), asInt (List.getD (rowAt (rowsOn L) k) (0 : Nat) D.nilp)) [A.agg (Prg.cells p), A.c (D.int IntKind.i64 (asInt (List.getD (rowAt (rowsOn L) k) (0 : Nat) D.nilp)))])
(VC.all (v_sAt (Prg.of (Prg.cells p), asInt (List.getD (rowAt (rowsOn L) k) (0 : Nat) D.nilp))) fun (y11 : Ins) =>
(VC.need (PreOk c_dest (Row.of [D.int IntKind.i64 y11.kind, D.int IntKind.i64 y11.op, D.int IntKind.i64 y11.d, D.bool y11.aR, D.int IntKind.i64 y11.aN, D.bool y11.bR, D.int IntKind.i64 y11.bN, D.str y11.name, D.int IntKind.i64 y11.target], ()) [A.agg [D.int IntKind.i64 y11.kind, D.int IntKind.i64 y11.op, D.int IntKind.i64 y11.d, D.bool y11.aR, D.int IntKind.i64 y11.aN, D.bool y11.bR, D.int IntKind.i64 y11.bN, D.str y11.name, D.int IntKind.i64 y11.target]])
(VC.all (v_dest (Row.of [D.int IntKind.i64 y11.kind, D.int IntKind.i64 y11.op, D.int IntKind.i64 y11.d, D.bool y11.aR, D.int IntKind.i64 y11.aN, D.bool y11.bR, D.int IntKind.i64 y11.bN, D.str y11.name, D.int IntKind.i64 y11.target], ())) fun (y12 : Int × Bool) =>
(VC.br (y12.snd)
 (VC.br (y12.fst == r)
  (VC.br (!asBool (List.getD (rowAt (rowsOn L) k) (5 : Nat) D.nilp))
   (VC.ret (some (RR.tup [Sum.inl (Rc.d (D.int IntKind.i64 (0 : Int))), Sum.inl (Rc.d (D.bool false))])))
   (VC.ret (some (RR.tup [Sum.inl (Rc.d (D.int IntKind.i64 (asInt (List.getD (rowAt (rowsOn L) k) (1 : Nat) D.nilp)))), Sum.inl (Rc.d (D.bool true))]))))
  (FnA.bk a_reg 0 ((some (8 : Nat), [Kd.int IntKind.i64, Kd.int IntKind.i64, Kd.int IntKind.i64, Kd.int IntKind.i64, Kd.int IntKind.i64, Kd.bool, Kd.bool, Kd.bool])) (St.blk (B_reg p g r)) (rowsOn L) (k) (F_reg p g l i r b c C Z)))
 (FnA.bk a_reg 0 ((some (8 : Nat), [Kd.int IntKind.i64, Kd.int IntKind.i64, Kd.int IntKind.i64, Kd.int IntKind.i64, Kd.int IntKind.i64, Kd.bool, Kd.bool, Kd.bool])) (St.blk (B_reg p g r)) (rowsOn L) (k) (F_reg p g l i r b c C Z)))))))) := by kernel_rfl
theorem l_reg (p : Prg) (g : Regs) (l : List (List D)) (i r : Int) (b c : Bool) (C Z : List (List D)) (L : List Ent) (h0 : 0 ≤ r) (h4 : r < 4) : ∀ k : Nat, k ≤ L.length →
    (FnA.bk a_reg 0 (some 8, kdE) (St.blk (B_reg p g r)) (rowsOn L) k (F_reg p g l i r b c C Z)).holds s_reg.cx a_reg.rs fun x => x.le (rib (regK p g r L k)) := by
  intro k
  induction k with
  | zero =>
    intro _
    refine bk_of_round s_reg_sound (m := 400) ?_
    rw [t_reg0]
    unfold regK Regs.get
    refine br_dec (fun e => ?_) (fun e0 => br_dec (fun e => ?_) (fun e1 => br_dec (fun e => ?_) (fun e2 => br_dec (fun e => ?_) (fun e3 => by omega))))
    · rw [if_pos e]; exact ret_le (RR.le_refl _)
    · rw [if_neg e0, if_pos e]; exact ret_le (RR.le_refl _)
    · rw [if_neg e0, if_neg e1, if_pos e]; exact ret_le (RR.le_refl _)
    · rw [if_neg e0, if_neg e1, if_neg e2]; exact ret_le (RR.le_refl _)
  | succ k ih =>
    intro hk
    have ih := ih (by omega)
    refine bk_of_round s_reg_sound (m := 400) ?_
    rw [show k + 1 = Nat.succ k from rfl, t_regS]
    have e0 : asInt (List.getD (rowAt (rowsOn L) k) 0 .nilp) = (rd L (k : Int)).pc := rd_Ent_pc L (k : Int)
    have e1 : asInt (List.getD (rowAt (rowsOn L) k) 1 .nilp) = (rd L (k : Int)).val := rd_Ent_val L (k : Int)
    have e5 : asBool (List.getD (rowAt (rowsOn L) k) 5 .nilp) = (rd L (k : Int)).done := rd_Ent_done L (k : Int)
    rw [e0, e1, e5]
    unfold regK
    simp only [Prg.of_cells]
    refine ⟨⟨by rw [rowsOn_length]; omega, okSh_ok _ L (k : Int) (fun _ => rfl) (by omega) (by omega)⟩, PreOk.mk trivial rfl, all_holds fun y hy => ⟨PreOk.mk trivial rfl, all_holds fun z hz => ?_⟩⟩
    replace hy : y = atS p.ins (rd L (k : Int)).pc := hy
    replace hz : z = destS y := hz
    rw [← hy, ← hz]
    refine br_holds (fun h1 => br_beq (fun h2 => ?_) (fun h2 => ?_)) (fun h1 => ?_)
    · rw [if_pos ⟨h1, h2⟩]
      refine br_not (br_holds (fun h3 => ?_) (fun h3 => ?_))
      · rw [if_pos h3]; exact ret_le (RR.le_refl _)
      · rw [if_neg (by simp [h3])]; exact ret_le (RR.le_refl _)
    · rw [if_neg (fun q => h2 q.2)]; exact ih
    · rw [if_neg (fun q => by rw [h1] at q; cases q.1)]; exact ih
theorem c_reg_good : c_reg.fe.Good Try.prog := by
  refine FT.good c_reg ⟨Try.f16, by kernel_rfl, by decide +kernel, by kernel_rfl⟩ (fun ⟨p, g, l, i, r⟩ => by first | rfl | simp [c_reg, rrRef, rwk, rD, rcb, rdo, rConfB, riiibb, rreal, riib, rE, rrun, rstep, rins, rnum, rby, rss, rnewI, rnewE, rstab, rplaces, ri, rb, rib, Sta.fresh]) fun ⟨p, g, l, i, r⟩ hp => ?_
  refine acalls_leT (tags := [832]) s_reg_sound (fn := Try.f16) (a := a_reg) (nargs := 5) (tbl := []) (by kernel_rfl) (by kernel_rfl) rfl (m := 400) ?_
  show VC.holds _ _ _ (a_reg.start s_reg 400 [ap p, aRegs g, aE l, ai i, ai r])
  rw [t_reg]
  try simp only [asRows_sl, asInt_int, asBool_bool, asStr_str, listOf_rowsOn, List.drop_zero, Prg.eta, Sta.eta, rowsOn_length, getD_drop, Nat.reduceAdd, rd_int, rd_PMem_name, rd_PMem_secret, rd_PMem_n, rd_PLabel_name, rd_PLabel_at_, rd_Ins_kind, rd_Ins_op, rd_Ins_d, rd_Ins_aR, rd_Ins_aN, rd_Ins_bR, rd_Ins_bN, rd_Ins_name, rd_Ins_target, rd_Ent_pc, rd_Ent_val, rd_Ent_addr, rd_Ent_fro, rd_Ent_next, rd_Ent_done, rd_Ent_known, rd_Ent_fault, rd_Place_reg, rd_Place_n, rd_Place_secret, rd_Obs_kind, rd_Obs_at_, rd_Dir_kind, rd_Dir_n, Prg.of_cells, Sta.of_cells]
  try simp only [c_reg] at hp
  have hc := cutS_len l i
  have e : c_reg.ans (p, g, l, i, r) = rib (regS p g l i r) := rfl
  rw [e]
  unfold regS
  refine br_dec (fun h => ?_) (fun h0 => br_dec (fun h => ?_) (fun h4 => ?_))
  · rw [if_pos (.inl h)]; exact ret_le (RR.le_refl _)
  · rw [if_pos (.inr h)]; exact ret_le (RR.le_refl _)
  rw [if_neg (by omega)]
  refine ⟨PreOk.mk hp rfl, PreOk.mk trivial rfl, back_okE _ (by have hp : l.length ≤ 1000000000 := hp; omega), ?_⟩
  exact l_reg p g _ i r _ _ _ _ (cutS l i) (by omega) (by omega) _ (Nat.le_refl _)
noncomputable def v_reg : Prg × Regs × List Ent × Int × Int → Int × Bool := fun x => regS x.1 x.2.1 x.2.2.1 x.2.2.2.1 x.2.2.2.2
noncomputable def sh_reg : Int × Bool → RR := fun y => rib y
theorem e_reg (x : Prg × Regs × List Ent × Int × Int) : sh_reg (v_reg x) = c_reg.ans x := rfl
def c_rval : FT (Prg × Regs × List Ent × Int × Bool × Int) := ⟨20, fun x => [ap x.1, aRegs x.2.1, aE x.2.2.1, ai x.2.2.2.1, aVal x.2.2.2.2.1 x.2.2.2.2.2], rdVal, fun x => x.2.2.1.length ≤ 1000000000, fun x => rib (valS2 x.1 x.2.1 x.2.2.1 x.2.2.2.1 x.2.2.2.2.1 x.2.2.2.2.2), false, fun x => by simp [ap, aRegs, aE, ai, aVal, rdVal]⟩
noncomputable def s_rval : Sp := spT [c_reg.gfe v_reg sh_reg e_reg, c_wMask.fe]
theorem s_rval_sound : s_rval.sound Try.prog := spT_sound fun e he => by
  simp only [List.mem_cons, List.not_mem_nil, or_false] at he
  rcases he with rfl | rfl
  · exact FT.gfe_good c_reg_good
  · exact c_wMask_good
set_option maxRecDepth 100000 in
theorem t_rval (p : Prg) (g : Regs) (l : List Ent) (i : Int) (b : Bool) (n : Int) : a_rval.start s_rval 400 [ap p, aRegs g, aE l, ai i, aVal b n] =
(VC.br (b)
 (VC.need (PreOk c_reg (Prg.of (Prg.cells p), g, l, i, n) [A.agg (Prg.cells p), A.agg [D.int IntKind.i64 g.r0, D.int IntKind.i64 g.r1, D.int IntKind.i64 g.r2, D.int IntKind.i64 g.r3], A.c (D.sl (rowsOn l)), A.c (D.int IntKind.i64 i), A.c (D.int IntKind.i64 n)])
 (VC.all (v_reg (Prg.of (Prg.cells p), { r0 := g.r0, r1 := g.r1, r2 := g.r2, r3 := g.r3 }, listOf Ent (rowsOn l), i, n)) fun (y6 : Int × Bool) =>
 (VC.ret (some (RR.tup [Sum.inl (Rc.d (D.int IntKind.i64 y6.fst)), Sum.inl (Rc.d (D.bool y6.snd))])))))
 (VC.need (PreOk c_wMask (p.w, n) [A.c (D.int IntKind.i64 p.w), A.c (D.int IntKind.i64 n)])
 (VC.ret (some (RR.tup [Sum.inl (Rc.d (D.int IntKind.i64 (maskS p.w n))), Sum.inl (Rc.d (D.bool true))]))))) := by kernel_rfl
theorem c_rval_good : c_rval.fe.Good Try.prog := by
  refine FT.good c_rval ⟨Try.f20, by kernel_rfl, by decide +kernel, by kernel_rfl⟩ (fun ⟨p, g, l, i, b, n⟩ => by first | rfl | simp [c_rval, rrRef, rwk, rD, rcb, rdo, rConfB, riiibb, rreal, riib, rE, rrun, rstep, rins, rnum, rby, rss, rnewI, rnewE, rstab, rplaces, ri, rb, rib, Sta.fresh]) fun ⟨p, g, l, i, b, n⟩ hp => ?_
  refine acalls_le s_rval_sound (fn := Try.f20) (a := a_rval) (nargs := 5) (tbl := []) (by kernel_rfl) (by kernel_rfl) rfl (m := 400) ?_
  show VC.holds _ _ _ (a_rval.start s_rval 400 [ap p, aRegs g, aE l, ai i, aVal b n])
  rw [t_rval]
  try simp only [asRows_sl, asInt_int, asBool_bool, asStr_str, listOf_rowsOn, List.drop_zero, Prg.eta, Sta.eta, rowsOn_length, getD_drop, Nat.reduceAdd, rd_int, rd_PMem_name, rd_PMem_secret, rd_PMem_n, rd_PLabel_name, rd_PLabel_at_, rd_Ins_kind, rd_Ins_op, rd_Ins_d, rd_Ins_aR, rd_Ins_aN, rd_Ins_bR, rd_Ins_bN, rd_Ins_name, rd_Ins_target, rd_Ent_pc, rd_Ent_val, rd_Ent_addr, rd_Ent_fro, rd_Ent_next, rd_Ent_done, rd_Ent_known, rd_Ent_fault, rd_Place_reg, rd_Place_n, rd_Place_secret, rd_Obs_kind, rd_Obs_at_, rd_Dir_kind, rd_Dir_n, Prg.of_cells, Sta.of_cells]
  try simp only [c_rval] at hp
  have e : c_rval.ans (p, g, l, i, b, n) = rib (valS2 p g l i b n) := rfl
  rw [e]
  unfold valS2
  refine br_holds (fun h => ?_) (fun h => ?_)
  · rw [if_pos h]
    refine ⟨PreOk.mk hp rfl, all_holds fun y hy => ret_le ?_⟩
    subst hy
    exact RR.le_refl _
  · rw [if_neg (by rw [h]; simp)]
    exact ⟨PreOk.mk trivial rfl, ret_le (RR.le_refl _)⟩
noncomputable def v_rval : Prg × Regs × List Ent × Int × Bool × Int → Int × Bool := fun x => valS2 x.1 x.2.1 x.2.2.1 x.2.2.2.1 x.2.2.2.2.1 x.2.2.2.2.2
noncomputable def sh_rval : Int × Bool → RR := fun y => rib y
theorem e_rval (x : Prg × Regs × List Ent × Int × Bool × Int) : sh_rval (v_rval x) = c_rval.ans x := rfl
/-- seqm.put and seqm.touch are run in their callers' places. -/
noncomputable def Z_en : Zo := mkZ Try.prog 0 [(63, ⟨100000, fun _ => none, fun _ => none⟩), (67, Z_t)] bkEnt
theorem Z_en_ok : ZOK Try.prog 2 Z_en := zok_mk fun p hp => by
  simp only [List.mem_cons, List.not_mem_nil, or_false] at hp
  rcases hp with rfl | rfl
  · exact zok_none _ _ _
  · exact zok_mk fun p hp => by
      simp only [List.mem_cons, List.not_mem_nil, or_false] at hp
      subst hp
      exact zok_none _ _ _
theorem awk10 : ACalls Try.prog 18 [] (.c (.d (.bool true))) ∧ Enters Try.prog 18 :=
  axG_sound (n := 60) Z_en_ok extE_sound bkEnt_bk 8 (by kernel_rfl)
theorem c_awake10_good : c_awake10.fe.Good Try.prog := FT.good c_awake10 awk10.2 (fun _ => rfl) fun _ _ => awk10.1
end Go.Proofs.Ytmhfhobaicklmaa.Ax
end

section
/- The statement ResoTells. -/
namespace Go.Proofs.Ytmhfhobaicklmaa.Ax
open Go.RowKit
set_option linter.unusedVariables false
set_option linter.unusedSimpArgs false
def rdRT : List A → List Int × List Int × List Int × Int × Int × Bool × Int
  | [.c (.sl l), .c (.sl m), .c (.sl k), .c (.int _ i), .c (.int _ r), .agg [.bool b, .int _ n]] => (listOf Int l, listOf Int m, listOf Int k, i, r, b, n)
  | _ => default
def c_lRT : FT (List Int × List Int × List Int × Int × Int × Bool × Int) := ⟨5, fun x => [al x.1, al x.2.1, al x.2.2.1, ai x.2.2.2.1, ai x.2.2.2.2.1, aVal x.2.2.2.2.2.1 x.2.2.2.2.2.2], rdRT, fun _ => True, fun x => rb true, false, fun x => by simp [al, ai, aVal, rdRT]⟩
noncomputable def a_lRT : FnA := (fnA Try.prog Try.f5 6 [(5, [3, 4, 11, 13, 16, 18]), (15, [13, 143, 144])]).getD ⟨0, .skip, [], []⟩
noncomputable def s_lRT : Sp := spT [c_make.gfe v_make sh_make e_make, c_states.gfe v_states sh_states e_states, c_wk.gfe v_wk sh_wk e_wk, c_reg.gfe v_reg sh_reg e_reg, c_r9Reg.gfe v_r9Reg sh_r9Reg e_r9Reg, c_rval.gfe v_rval sh_rval e_rval, c_r9Val.gfe v_r9Val sh_r9Val e_r9Val, c_blk.fe, c_r9Blk.gfe v_r9Blk sh_r9Blk e_r9Blk, c_dest.gfe v_dest sh_dest e_dest, c_r9Dest.gfe v_r9Dest sh_r9Dest e_r9Dest, c_awake10.fe]
theorem s_lRT_sound : s_lRT.sound Try.prog := spT_sound fun e he => by
  simp only [List.mem_cons, List.not_mem_nil, or_false] at he
  rcases he with rfl | rfl | rfl | rfl | rfl | rfl | rfl | rfl | rfl | rfl | rfl | rfl
  · exact FT.gfe_good c_make_good
  · exact FT.gfe_good c_states_good
  · exact FT.gfe_good c_wk_good
  · exact FT.gfe_good c_reg_good
  · exact FT.gfe_good c_r9Reg_good
  · exact FT.gfe_good c_rval_good
  · exact FT.gfe_good c_r9Val_good
  · exact c_blk_good
  · exact FT.gfe_good c_r9Blk_good
  · exact FT.gfe_good c_dest_good
  · exact FT.gfe_good c_r9Dest_good
  · exact c_awake10_good
def F_rt0 (p : Prg) (c : Conf) (i r : Int) (b : Bool) (n q : Int) : St := ⟨mkS 175 [(3, vi i), (4, vi r), (11, vp 704), (13, vp 832), (16, vp 1024), (18, vi q)], [(704, bx [.bool b, .int .i64 n]), (832, bx p.cells), (1024, bx c.cells)]⟩
def F_rt1 (p : Prg) (m k : Int) : St := ⟨mkS 175 [(13, vp 832), (143, vi m), (144, vi k)], [(832, bx p.cells)]⟩
set_option maxRecDepth 100000 in
theorem t_lRT (l m k : List Int) (i r : Int) (b : Bool) (n : Int) : a_lRT.start s_lRT 400 [al l, al m, al k, ai i, ai r, aVal b n] =
(VC.need (PreOk c_make (l, ()) [A.c (D.sl (rowsOn l))])
(VC.all (v_make (listOf Int (rowsOn l), ())) fun (y7 : Prg) =>
(VC.need (PreOk c_states (Prg.of (Prg.cells y7), m, (1 : Int)) [A.agg (Prg.cells y7), A.c (D.sl (rowsOn m)), A.c (D.int IntKind.i64 (1 : Int))])
(VC.all (((startS (Prg.of (Prg.cells y7)) (toldS (List.length (placesS (Prg.of (Prg.cells y7)))) (padF (listOf Int (rowsOn m))) (List.length (placesS (Prg.of (Prg.cells y7)))))).fst, (startS (Prg.of (Prg.cells y7)) (toldS (List.length (placesS (Prg.of (Prg.cells y7)))) (twinF (1 : Int) (placesS (Prg.of (Prg.cells y7))) (listOf Int (rowsOn m))) (List.length (placesS (Prg.of (Prg.cells y7)))))).fst)) fun (y8 : Sta × Sta) =>
(VC.need (PreOk c_wk (Prg.of (Prg.cells y7), Sta.of (Sta.cells y8.fst), k) [A.agg (Prg.cells y7), A.agg (Sta.cells y8.fst), A.c (D.sl (rowsOn k))])
(VC.all (v_wk (Prg.of (Prg.cells y7), Sta.of (Sta.cells y8.fst), listOf Int (rowsOn k))) fun (y9 : Conf × List Dir) =>
(FnA.at_ a_lRT 0 (F_rt0 y7 y9.fst i r b n (0 : Int))))))))) := by kernel_rfl
set_option maxRecDepth 100000 in
theorem t_rt0 (p : Prg) (c : Conf) (i r : Int) (b : Bool) (n q : Int) : a_lRT.round s_lRT 400 0 (F_rt0 p c i r b n q) =
(VC.br (decide (q < (2 : Int)))
 (VC.need (PreOk c_reg (Prg.of (Prg.cells p), { r0 := c.st.r0, r1 := c.st.r1, r2 := c.st.r2, r3 := c.st.r3 }, c.buf, i, r) [A.agg (Prg.cells p), A.agg [D.int IntKind.i64 c.st.r0, D.int IntKind.i64 c.st.r1, D.int IntKind.i64 c.st.r2, D.int IntKind.i64 c.st.r3], A.c (D.sl (rowsOn c.buf)), A.c (D.int IntKind.i64 i), A.c (D.int IntKind.i64 r)])
 (VC.all (v_reg (Prg.of (Prg.cells p), { r0 := c.st.r0, r1 := c.st.r1, r2 := c.st.r2, r3 := c.st.r3 }, listOf Ent (rowsOn c.buf), i, r)) fun (y7 : Int × Bool) =>
 (VC.need (PreOk c_r9Reg (Prg.of (Prg.cells p), { r0 := c.st.r0, r1 := c.st.r1, r2 := c.st.r2, r3 := c.st.r3 }, c.buf, i, r) [A.agg (Prg.cells p), A.agg [D.int IntKind.i64 c.st.r0, D.int IntKind.i64 c.st.r1, D.int IntKind.i64 c.st.r2, D.int IntKind.i64 c.st.r3], A.c (D.sl (rowsOn c.buf)), A.c (D.int IntKind.i64 i), A.c (D.int IntKind.i64 r)])
 (VC.all (v_r9Reg (Prg.of (Prg.cells p), { r0 := c.st.r0, r1 := c.st.r1, r2 := c.st.r2, r3 := c.st.r3 }, listOf Ent (rowsOn c.buf), i, r)) fun (y8 : Int × Bool) =>
 (VC.need (PreOk c_rval (Prg.of (Prg.cells p), { r0 := c.st.r0, r1 := c.st.r1, r2 := c.st.r2, r3 := c.st.r3 }, c.buf, i, b, n) [A.agg (Prg.cells p), A.agg [D.int IntKind.i64 c.st.r0, D.int IntKind.i64 c.st.r1, D.int IntKind.i64 c.st.r2, D.int IntKind.i64 c.st.r3], A.c (D.sl (rowsOn c.buf)), A.c (D.int IntKind.i64 i), A.agg [D.bool b, D.int IntKind.i64 n]])
 (VC.all (v_rval (Prg.of (Prg.cells p), { r0 := c.st.r0, r1 := c.st.r1, r2 := c.st.r2, r3 := c.st.r3 }, listOf Ent (rowsOn c.buf), i, b, n)) fun (y9 : Int × Bool) =>
 (VC.need (PreOk c_r9Val (Prg.of (Prg.cells p), { r0 := c.st.r0, r1 := c.st.r1, r2 := c.st.r2, r3 := c.st.r3 }, c.buf, i, b, n) [A.agg (Prg.cells p), A.agg [D.int IntKind.i64 c.st.r0, D.int IntKind.i64 c.st.r1, D.int IntKind.i64 c.st.r2, D.int IntKind.i64 c.st.r3], A.c (D.sl (rowsOn c.buf)), A.c (D.int IntKind.i64 i), A.agg [D.bool b, D.int IntKind.i64 n]])
 (VC.all (v_r9Val (Prg.of (Prg.cells p), { r0 := c.st.r0, r1 := c.st.r1, r2 := c.st.r2, r3 := c.st.r3 }, listOf Ent (rowsOn c.buf), i, b, n)) fun (y10 : Int × Bool) =>
 (VC.br (y7.fst != y8.fst)
  (VC.ret (some (RR.c (Rc.d (D.bool false)))))
  (VC.br (if true = true then !y7.snd == y8.snd else y7.snd == y8.snd)
   (VC.ret (some (RR.c (Rc.d (D.bool false)))))
   (VC.br (y9.fst != y10.fst)
    (VC.ret (some (RR.c (Rc.d (D.bool false)))))
    (VC.br (if true = true then !y9.snd == y10.snd else y9.snd == y10.snd)
     (VC.ret (some (RR.c (Rc.d (D.bool false)))))
     (VC.need (PreOk c_blk (Prg.of (Prg.cells p), c.buf, i) [A.agg (Prg.cells p), A.c (D.sl (rowsOn c.buf)), A.c (D.int IntKind.i64 i)])
     (VC.need (PreOk c_r9Blk (Prg.of (Prg.cells p), c.buf, i) [A.agg (Prg.cells p), A.c (D.sl (rowsOn c.buf)), A.c (D.int IntKind.i64 i)])
     (VC.all (v_r9Blk (Prg.of (Prg.cells p), listOf Ent (rowsOn c.buf), i)) fun (y11 : Bool) =>
     (VC.br (if true = true then !decide ((0 : Int) ≤ ixS (Prg.of (Prg.cells p)) (cutS (listOf Ent (rowsOn c.buf)) i)) == y11 else decide ((0 : Int) ≤ ixS (Prg.of (Prg.cells p)) (cutS (listOf Ent (rowsOn c.buf)) i)) == y11)
      (VC.ret (some (RR.c (Rc.d (D.bool false)))))
      (FnA.at_ a_lRT 0 (F_rt0 p c (IntKind.wrap IntKind.i64 (bits BinOp.and IntKind.i64 i (7 : Int) - (1 : Int))) (IntKind.wrap IntKind.i64 (bits BinOp.and IntKind.i64 r (7 : Int) - (1 : Int))) b (IntKind.wrap IntKind.i64 (bits BinOp.and IntKind.i64 n (7 : Int) - (1 : Int))) (IntKind.wrap IntKind.i64 (q + (1 : Int)))))))))))))))))))))
 (FnA.at_ a_lRT 1 (F_rt1 p (↑(List.length (rowsOn p.ins)) : Int) (0 : Int)))) := by kernel_rfl
set_option maxRecDepth 100000 in
theorem t_rt1 (p : Prg) (m k : Int) : a_lRT.round s_lRT 400 1 (F_rt1 p m k) =
(VC.br (decide (k < m))
 (VC.need ((0 : Int) ≤ k ∧ k < (↑(List.length (rowsOn p.ins)) : Int) ∧ List.length (rowAt (rowsOn p.ins) (Int.toNat k)) = (9 : Nat))
 (VC.need (okSh [Kd.int IntKind.i64, Kd.int IntKind.i64, Kd.int IntKind.i64, Kd.bool, Kd.int IntKind.i64, Kd.bool, Kd.int IntKind.i64, Kd.str, Kd.int IntKind.i64] (rowAt (rowsOn p.ins) (Int.toNat k)))
 (VC.need (PreOk c_dest (Row.of [D.int IntKind.i64 (asInt (List.getD (rowAt (rowsOn p.ins) (Int.toNat k)) (0 : Nat) D.nilp)), D.int IntKind.i64 (asInt (List.getD (rowAt (rowsOn p.ins) (Int.toNat k)) (1 : Nat) D.nilp)), D.int IntKind.i64 (asInt (List.getD (rowAt (rowsOn p.ins) (Int.toNat k)) (2 : Nat) D.nilp)), D.bool (asBool (List.getD (rowAt (rowsOn p.ins) (Int.toNat k)) (3 : Nat) D.nilp)), D.int IntKind.i64 (asInt (List.getD (rowAt (rowsOn p.ins) (Int.toNat k)) (4 : Nat) D.nilp)), D.bool (asBool (List.getD (rowAt (rowsOn p.ins) (Int.toNat k)) (5 : Nat) D.nilp)), D.int IntKind.i64 (asInt (List.getD (rowAt (rowsOn p.ins) (Int.toNat k)) (6 : Nat) D.nilp)), D.str (asStr (List.getD (rowAt (rowsOn p.ins) (Int.toNat k)) (7 : Nat) D.nilp)), D.int IntKind.i64 (asInt (List.getD (rowAt (rowsOn p.ins) (Int.toNat k)) (8 : Nat) D.nilp))], ()) [A.agg [D.int IntKind.i64 (asInt (List.getD (rowAt (rowsOn p.ins) (Int.toNat k)) (0 : Nat) D.nilp)), D.int IntKind.i64 (asInt (List.getD (rowAt (rowsOn p.ins) (Int.toNat k)) (1 : Nat) D.nilp)), D.int IntKind.i64 (asInt (List.getD (rowAt (rowsOn p.ins) (Int.toNat k)) (2 : Nat) D.nilp)), D.bool (asBool (List.getD (rowAt (rowsOn p.ins) (Int.toNat k)) (3 : Nat) D.nilp)), D.int IntKind.i64 (asInt (List.getD (rowAt (rowsOn p.ins) (Int.toNat k)) (4 : Nat) D.nilp)), D.bool (asBool (List.getD (rowAt (rowsOn p.ins) (Int.toNat k)) (5 : Nat) D.nilp)), D.int IntKind.i64 (asInt (List.getD (rowAt (rowsOn p.ins) (Int.toNat k)) (6 : Nat) D.nilp)), D.str (asStr (List.getD (rowAt (rowsOn p.ins) (Int.toNat k)) (7 : Nat) D.nilp)), D.int IntKind.i64 (asInt (List.getD (rowAt (rowsOn p.ins) (Int.toNat k)) (8 : Nat) D.nilp))]])
 (VC.all (v_dest (Row.of [D.int IntKind.i64 (asInt (List.getD (rowAt (rowsOn p.ins) (Int.toNat k)) (0 : Nat) D.nilp)), D.int IntKind.i64 (asInt (List.getD (rowAt (rowsOn p.ins) (Int.toNat k)) (1 : Nat) D.nilp)), D.int IntKind.i64 (asInt (List.getD (rowAt (rowsOn p.ins) (Int.toNat k)) (2 : Nat) D.nilp)), D.bool (asBool (List.getD (rowAt (rowsOn p.ins) (Int.toNat k)) (3 : Nat) D.nilp)), D.int IntKind.i64 (asInt (List.getD (rowAt (rowsOn p.ins) (Int.toNat k)) (4 : Nat) D.nilp)), D.bool (asBool (List.getD (rowAt (rowsOn p.ins) (Int.toNat k)) (5 : Nat) D.nilp)), D.int IntKind.i64 (asInt (List.getD (rowAt (rowsOn p.ins) (Int.toNat k)) (6 : Nat) D.nilp)), D.str (asStr (List.getD (rowAt (rowsOn p.ins) (Int.toNat k)) (7 : Nat) D.nilp)), D.int IntKind.i64 (asInt (List.getD (rowAt (rowsOn p.ins) (Int.toNat k)) (8 : Nat) D.nilp))], ())) fun (y3 : Int × Bool) =>
 (VC.need ((0 : Int) ≤ k ∧ k < (↑(List.length (rowsOn p.ins)) : Int) ∧ List.length (rowAt (rowsOn p.ins) (Int.toNat k)) = (9 : Nat))
 (VC.need (okSh [Kd.int IntKind.i64, Kd.int IntKind.i64, Kd.int IntKind.i64, Kd.bool, Kd.int IntKind.i64, Kd.bool, Kd.int IntKind.i64, Kd.str, Kd.int IntKind.i64] (rowAt (rowsOn p.ins) (Int.toNat k)))
 (VC.need (PreOk c_r9Dest (Row.of [D.int IntKind.i64 (asInt (List.getD (rowAt (rowsOn p.ins) (Int.toNat k)) (0 : Nat) D.nilp)), D.int IntKind.i64 (asInt (List.getD (rowAt (rowsOn p.ins) (Int.toNat k)) (1 : Nat) D.nilp)), D.int IntKind.i64 (asInt (List.getD (rowAt (rowsOn p.ins) (Int.toNat k)) (2 : Nat) D.nilp)), D.bool (asBool (List.getD (rowAt (rowsOn p.ins) (Int.toNat k)) (3 : Nat) D.nilp)), D.int IntKind.i64 (asInt (List.getD (rowAt (rowsOn p.ins) (Int.toNat k)) (4 : Nat) D.nilp)), D.bool (asBool (List.getD (rowAt (rowsOn p.ins) (Int.toNat k)) (5 : Nat) D.nilp)), D.int IntKind.i64 (asInt (List.getD (rowAt (rowsOn p.ins) (Int.toNat k)) (6 : Nat) D.nilp)), D.str (asStr (List.getD (rowAt (rowsOn p.ins) (Int.toNat k)) (7 : Nat) D.nilp)), D.int IntKind.i64 (asInt (List.getD (rowAt (rowsOn p.ins) (Int.toNat k)) (8 : Nat) D.nilp))], ()) [A.agg [D.int IntKind.i64 (asInt (List.getD (rowAt (rowsOn p.ins) (Int.toNat k)) (0 : Nat) D.nilp)), D.int IntKind.i64 (asInt (List.getD (rowAt (rowsOn p.ins) (Int.toNat k)) (1 : Nat) D.nilp)), D.int IntKind.i64 (asInt (List.getD (rowAt (rowsOn p.ins) (Int.toNat k)) (2 : Nat) D.nilp)), D.bool (asBool (List.getD (rowAt (rowsOn p.ins) (Int.toNat k)) (3 : Nat) D.nilp)), D.int IntKind.i64 (asInt (List.getD (rowAt (rowsOn p.ins) (Int.toNat k)) (4 : Nat) D.nilp)), D.bool (asBool (List.getD (rowAt (rowsOn p.ins) (Int.toNat k)) (5 : Nat) D.nilp)), D.int IntKind.i64 (asInt (List.getD (rowAt (rowsOn p.ins) (Int.toNat k)) (6 : Nat) D.nilp)), D.str (asStr (List.getD (rowAt (rowsOn p.ins) (Int.toNat k)) (7 : Nat) D.nilp)), D.int IntKind.i64 (asInt (List.getD (rowAt (rowsOn p.ins) (Int.toNat k)) (8 : Nat) D.nilp))]])
 (VC.all (v_r9Dest (Row.of [D.int IntKind.i64 (asInt (List.getD (rowAt (rowsOn p.ins) (Int.toNat k)) (0 : Nat) D.nilp)), D.int IntKind.i64 (asInt (List.getD (rowAt (rowsOn p.ins) (Int.toNat k)) (1 : Nat) D.nilp)), D.int IntKind.i64 (asInt (List.getD (rowAt (rowsOn p.ins) (Int.toNat k)) (2 : Nat) D.nilp)), D.bool (asBool (List.getD (rowAt (rowsOn p.ins) (Int.toNat k)) (3 : Nat) D.nilp)), D.int IntKind.i64 (asInt (List.getD (rowAt (rowsOn p.ins) (Int.toNat k)) (4 : Nat) D.nilp)), D.bool (asBool (List.getD (rowAt (rowsOn p.ins) (Int.toNat k)) (5 : Nat) D.nilp)), D.int IntKind.i64 (asInt (List.getD (rowAt (rowsOn p.ins) (Int.toNat k)) (6 : Nat) D.nilp)), D.str (asStr (List.getD (rowAt (rowsOn p.ins) (Int.toNat k)) (7 : Nat) D.nilp)), D.int IntKind.i64 (asInt (List.getD (rowAt (rowsOn p.ins) (Int.toNat k)) (8 : Nat) D.nilp))], ())) fun (y4 : Int × Bool) =>
 (VC.br (y3.fst != y4.fst)
  (VC.ret (some (RR.c (Rc.d (D.bool false)))))
  (VC.br (if true = true then !y3.snd == y4.snd else y3.snd == y4.snd)
   (VC.ret (some (RR.c (Rc.d (D.bool false)))))
   (FnA.at_ a_lRT 1 (F_rt1 p m (IntKind.wrap IntKind.i64 (k + (1 : Int)))))))))))))))
 (VC.need (PreOk c_awake10 PUnit.unit [])
 (VC.ret (some (RR.c (Rc.d (D.bool true))))))) := by kernel_rfl
theorem l_rt1 (p : Prg) (m : Int) (hm : m = p.ins.length) (hq : p.ins.length ≤ 1000000) : ∀ i_ : Int, (fun (k : Int) => 0 ≤ k ∧ k ≤ p.ins.length) i_ → (a_lRT.at_ 1 ((fun (k : Int) => F_rt1 p m k) i_)).holds s_lRT.cx a_lRT.rs (fun x => x.le (rb true)) := by
  refine loop_rule (a := a_lRT) (j := 1) (m := 400) s_lRT_sound (fun (k : Int) => F_rt1 p m k) (fun (k : Int) => 0 ≤ k ∧ k ≤ p.ins.length) (fun (k : Int) => ((p.ins.length : Int) - k).toNat) ?_
  rintro k h_inv ih
  try dsimp only at h_inv
  show VC.holds _ _ _ (a_lRT.round s_lRT 400 1 (F_rt1 p m k))
  rw [t_rt1]
  try simp only [asRows_sl, asInt_int, asBool_bool, asStr_str, listOf_rowsOn, List.drop_zero, Prg.eta, Sta.eta, rowsOn_length, getD_drop, Nat.reduceAdd, rd_int, rd_PMem_name, rd_PMem_secret, rd_PMem_n, rd_PLabel_name, rd_PLabel_at_, rd_Ins_kind, rd_Ins_op, rd_Ins_d, rd_Ins_aR, rd_Ins_aN, rd_Ins_bR, rd_Ins_bN, rd_Ins_name, rd_Ins_target, rd_Ent_pc, rd_Ent_val, rd_Ent_addr, rd_Ent_fro, rd_Ent_next, rd_Ent_done, rd_Ent_known, rd_Ent_fault, rd_Place_reg, rd_Place_n, rd_Place_secret, rd_Obs_kind, rd_Obs_at_, rd_Dir_kind, rd_Dir_n, Prg.of_cells, Sta.of_cells]
  obtain ⟨k0, k1⟩ := h_inv
  have w1 : IntKind.wrap .i64 (k + 1) = k + 1 := wrap_small _ (by omega) (by omega)
  simp only [w1]
  refine br_dec (fun hk => ?_) (fun _ => ⟨PreOk.mk trivial rfl, ret_le (RR.le_refl _)⟩)
  rw [hm] at hk
  have er := rowAt_on p.ins k k0 hk
  have g : 0 ≤ k ∧ k < (p.ins.length : Int) ∧ (rowAt (rowsOn p.ins) k.toNat).length = 9 := ⟨k0, hk, by rw [er]; rfl⟩
  have sh : okSh [Kd.int .i64, Kd.int .i64, Kd.int .i64, Kd.bool, Kd.int .i64, Kd.bool, Kd.int .i64, Kd.str, Kd.int .i64] (rowAt (rowsOn p.ins) k.toNat) := by rw [er]; rfl
  refine ⟨g, sh, PreOk.mk trivial rfl, all_holds fun y hy => ⟨g, sh, PreOk.mk trivial rfl, all_holds fun z hz => ?_⟩⟩
  replace hy : y = destS (rd p.ins k) := hy
  replace hz : z = destS (rd p.ins k) := hz
  rw [← hy] at hz
  subst hz
  refine br_bne (fun q => absurd rfl q) (fun _ => ?_)
  simp only [if_true]
  exact br_not (br_holds (fun _ => ih _ ⟨by omega, by omega⟩ (by omega)) (fun q => by simp at q))
theorem l_rt0 (p : Prg) (c : Conf) (b : Bool) (hb : c.buf.length ≤ 1000000) (hq : p.ins.length ≤ 1000000) : ∀ i_ : Int × Int × Int × Int, (fun (v : Int × Int × Int × Int) => 0 ≤ v.2.2.2 ∧ v.2.2.2 ≤ 2) i_ → (a_lRT.at_ 0 ((fun (v : Int × Int × Int × Int) => F_rt0 p c v.1 v.2.1 b v.2.2.1 v.2.2.2) i_)).holds s_lRT.cx a_lRT.rs (fun x => x.le (rb true)) := by
  refine loop_rule (a := a_lRT) (j := 0) (m := 400) s_lRT_sound (fun (v : Int × Int × Int × Int) => F_rt0 p c v.1 v.2.1 b v.2.2.1 v.2.2.2) (fun (v : Int × Int × Int × Int) => 0 ≤ v.2.2.2 ∧ v.2.2.2 ≤ 2) (fun (v : Int × Int × Int × Int) => (2 - v.2.2.2).toNat) ?_
  rintro ⟨i, r, n, q⟩ h_inv ih
  try dsimp only at h_inv
  replace ih := fun (v0 : Int) (v1 : Int) (v2 : Int) (v3 : Int) => ih (v0, v1, v2, v3)
  try dsimp only at ih
  show VC.holds _ _ _ (a_lRT.round s_lRT 400 0 (F_rt0 p c i r b n q))
  rw [t_rt0]
  try simp only [asRows_sl, asInt_int, asBool_bool, asStr_str, listOf_rowsOn, List.drop_zero, Prg.eta, Sta.eta, rowsOn_length, getD_drop, Nat.reduceAdd, rd_int, rd_PMem_name, rd_PMem_secret, rd_PMem_n, rd_PLabel_name, rd_PLabel_at_, rd_Ins_kind, rd_Ins_op, rd_Ins_d, rd_Ins_aR, rd_Ins_aN, rd_Ins_bR, rd_Ins_bN, rd_Ins_name, rd_Ins_target, rd_Ent_pc, rd_Ent_val, rd_Ent_addr, rd_Ent_fro, rd_Ent_next, rd_Ent_done, rd_Ent_known, rd_Ent_fault, rd_Place_reg, rd_Place_n, rd_Place_secret, rd_Obs_kind, rd_Obs_at_, rd_Dir_kind, rd_Dir_n, Prg.of_cells, Sta.of_cells]
  obtain ⟨q0, q1⟩ := h_inv
  have q0 : 0 ≤ q := q0
  have q1 : q ≤ 2 := q1
  have w1 : IntKind.wrap .i64 (q + 1) = q + 1 := wrap_small _ (by omega) (by omega)
  have hb1 : c.buf.length ≤ 1000000000 := by omega
  simp only [w1, Prg.of_cells, rowsOn_length, listOf_rowsOn]
  refine br_dec (fun hk => ?_) (fun _ => l_rt1 p _ rfl hq 0 ⟨Int.le_refl 0, by omega⟩)
  refine ⟨PreOk.mk hb1 rfl, all_holds fun y hy => ⟨PreOk.mk hb1 rfl, all_holds fun y2 hy2 => ⟨PreOk.mk hb1 rfl, all_holds fun z hz => ⟨PreOk.mk hb1 rfl, all_holds fun z2 hz2 => ?_⟩⟩⟩⟩
  replace hy : y = regS p c.regs c.buf i r := hy
  replace hy2 : y2 = regS p c.regs c.buf i r := hy2
  replace hz : z = valS2 p c.regs c.buf i b n := hz
  replace hz2 : z2 = valS2 p c.regs c.buf i b n := hz2
  rw [← hy] at hy2
  rw [← hz] at hz2
  subst hy2
  subst hz2
  refine br_bne (fun q => absurd rfl q) (fun _ => ?_)
  simp only [if_true]
  refine br_not (br_holds (fun _ => br_bne (fun q => absurd rfl q) (fun _ => br_not (br_holds (fun _ => ⟨PreOk.mk hb1 rfl, PreOk.mk hb1 rfl, all_holds fun w hw => ?_⟩) (fun q => by simp at q)))) (fun q => by simp at q))
  replace hw : w = decide (0 ≤ ixS p (cutS c.buf i)) := hw
  rw [← hw]
  exact br_not (br_holds (fun _ => ih _ _ _ _ ⟨by omega, by omega⟩ (by omega)) (fun q => by simp at q))
theorem c_lRT_good : c_lRT.fe.Good Try.prog := by
  refine FT.good c_lRT ⟨Try.f5, by kernel_rfl, by decide +kernel, by kernel_rfl⟩ (fun ⟨l, m, k, i, r, b, n⟩ => by first | rfl | simp [c_lRT, rrRef, rwk, rD, rcb, rdo, rConfB, riiibb, rreal, riib, rE, rrun, rstep, rins, rnum, rby, rss, rnewI, rnewE, rstab, rplaces, ri, rb, rib, Sta.fresh]) fun ⟨l, m, k, i, r, b, n⟩ hp => ?_
  refine acalls_le s_lRT_sound (fn := Try.f5) (a := a_lRT) (nargs := 6) (tbl := [(5, [3, 4, 11, 13, 16, 18]), (15, [13, 143, 144])]) (by kernel_rfl) (by kernel_rfl) rfl (m := 400) ?_
  show VC.holds _ _ _ (a_lRT.start s_lRT 400 [al l, al m, al k, ai i, ai r, aVal b n])
  rw [t_lRT]
  try simp only [asRows_sl, asInt_int, asBool_bool, asStr_str, listOf_rowsOn, List.drop_zero, Prg.eta, Sta.eta, rowsOn_length, getD_drop, Nat.reduceAdd, rd_int, rd_PMem_name, rd_PMem_secret, rd_PMem_n, rd_PLabel_name, rd_PLabel_at_, rd_Ins_kind, rd_Ins_op, rd_Ins_d, rd_Ins_aR, rd_Ins_aN, rd_Ins_bR, rd_Ins_bN, rd_Ins_name, rd_Ins_target, rd_Ent_pc, rd_Ent_val, rd_Ent_addr, rd_Ent_fro, rd_Ent_next, rd_Ent_done, rd_Ent_known, rd_Ent_fault, rd_Place_reg, rd_Place_n, rd_Place_secret, rd_Obs_kind, rd_Obs_at_, rd_Dir_kind, rd_Dir_n, Prg.of_cells, Sta.of_cells]
  try simp only [c_lRT] at hp
  refine ⟨PreOk.mk trivial rfl, all_holds fun p hp0 => ?_⟩
  have hw : WFM p := by rw [hp0]; exact (makeS_spec _).1
  clear hp0
  have hp := hw.ok
  refine ⟨PreOk.mk hw.toMems rfl, all_holds fun s2 hs2 => ?_⟩
  replace hs2 : s2 = statesS p m 1 := hs2
  obtain ⟨hok, _, _, _, hst, _⟩ := states_ok hp m 1
  rw [← hs2] at hok hst
  clear hs2
  generalize s2.1 = a at hok hst ⊢
  have hmem := (hok.small hp).1
  have hsl : a.stack.length ≤ 1000 := by rw [hst]; simp
  refine ⟨PreOk.mk ⟨hp.len, hsl, hmem⟩ rfl, all_holds fun y hy => ?_⟩
  replace hy : y = walkS p a k := hy
  have hm := walk_mach (p := p) (s := a) k hsl hmem
  rw [← hy] at hm
  have hb := hm.1.1
  exact l_rt0 p y.1 b (by omega) hp.len (i, r, n, 0) ⟨Int.le_refl 0, (by decide : (0 : Int) ≤ 2)⟩
end Go.Proofs.Ytmhfhobaicklmaa.Ax
end

section
/-
  DERIVED: THE SHELF's CONTRACTS AT THIS DUMP, IN PLAIN WORDS (tools/lay-plain.mjs out of 'TryShelf.lean', which tools/lay-shelf.mjs wrote): THE SAME DECLARATIONS UNDER THE SAME NAMES: 'import', 'namespace', 'open', 'def', 'theorem' AND NOTHING ELSE: no command of the shelf's: FOR A HAND-IN. Each laying: the table of numbers ('.._ren') and one theorem, a field a fact of the dump's own or the kernel's comparison; each contract: ONE APPLICATION.
-/
namespace Go.Proofs
open Go.Shelf
def Try.lays217_ren : Go.Shelf.Ren := ⟨fun | 217 => 116 | 266 => 120 | n => n, fun | 9 => 9 | 5 => 5 | 3 => 3 | n => n, fun | n => n⟩
theorem Try.lays217 : Go.Proofs.Lays.n217 Try.prog Try.lays217_ren := {
  mixed := by kernel_rfl
  f217 := Try.func116.trans (congrArg some (by kernel_rfl))
  f266 := Try.func120.trans (congrArg some (by kernel_rfl))
  t3 := Try.underlying3
  a3 := Try.isAgg3
  z3 := Try.sizeOf3
  v3 := Try.zeroValue3
  t5 := Try.underlying5
  a5 := Try.isAgg5
  z5 := Try.sizeOf5
  v5 := Try.zeroValue5
  t9 := Try.underlying9
  a9 := Try.isAgg9
  z9 := Try.sizeOf9
  v9 := Try.zeroValue9 }
open Go.RowKit Go.Lib in
/-- internal/stringslite.IndexByte (what strings.IndexByte calls): IT RETURNS 'Lib.indexByte s c'; the world is as it was. (LAID: no walk: one application.) -/
theorem Try.stringslite_IndexByte (s : ByteArray) (c : Int) (w : World) :
    Calls Try.prog 116 #[.string s, .int .u8 c] w fun e w' => e = .returned (.int .i64 (Lib.indexByte s.data.toList c.toNat.toUInt8)) ∧ w' = w := Any.stringslite_IndexByte Try.lays217 s c w
def Try.lays224_ren : Go.Shelf.Ren := ⟨fun | 224 => 118 | n => n, fun | 3 => 3 | n => n, fun | n => n⟩
theorem Try.lays224 : Go.Proofs.Lays.n224 Try.prog Try.lays224_ren := {
  mixed := by kernel_rfl
  f224 := Try.func118.trans (congrArg some (by kernel_rfl))
  t3 := Try.underlying3
  a3 := Try.isAgg3
  z3 := Try.sizeOf3
  v3 := Try.zeroValue3 }
open Go.RowKit Go.Lib in
/-- internal/bytealg.Cutover: "Cutover reports the number of failures of IndexByte we should tolerate before switching over to Index. n is the number of bytes processed so far.": on amd64: (n + 16) / 8. (LAID: no walk: one application.) -/
theorem Try.bytealg_Cutover (n : Int) (h0 : 0 ≤ n) (h1 : n < 4611686018427387904) (w : World) :
    Calls Try.prog 118 #[.int .i64 n] w fun e w' => e = .returned (.int .i64 ((n + 16) / 8)) ∧ w' = w := Any.bytealg_Cutover Try.lays224 n h0 h1 w
def Try.lays314_ren : Go.Shelf.Ren := ⟨fun | 314 => 121 | n => n, fun | 9 => 9 | 51 => 163 | 3 => 3 | 4 => 4 | 5 => 5 | 46 => 70 | n => n, fun | n => n⟩
theorem Try.lays314 : Go.Proofs.Lays.n314 Try.prog Try.lays314_ren := {
  mixed := by kernel_rfl
  f314 := Try.func121.trans (congrArg some (by kernel_rfl))
  t3 := Try.underlying3
  a3 := Try.isAgg3
  z3 := Try.sizeOf3
  v3 := Try.zeroValue3
  t4 := Try.underlying4
  a4 := Try.isAgg4
  z4 := Try.sizeOf4
  v4 := Try.zeroValue4
  t5 := Try.underlying5
  a5 := Try.isAgg5
  z5 := Try.sizeOf5
  v5 := Try.zeroValue5
  t9 := Try.underlying9
  a9 := Try.isAgg9
  z9 := Try.sizeOf9
  v9 := Try.zeroValue9
  t46 := Try.underlying70
  a46 := Try.isAgg70
  z46 := Try.sizeOf70
  v46 := Try.zeroValue70
  t51 := Try.underlying163
  a51 := Try.isAgg163
  z51 := Try.sizeOf163
  v51 := Try.zeroValue163 }
open Go.RowKit Go.Lib in
/-- hashStr: "returns the hash and the appropriate multiplicative factor for use in Rabin-Karp algorithm": THE HASH OF ALL OF sep, AND 16777619 ^ len(sep), both in uint32. (LAID: no walk: one application.) -/
theorem Try.bytealg_hashStr (sep : ByteArray) (hs : sep.size < 4294967281) (w : World) :
    Calls Try.prog 121 #[.string sep] w fun e w' => e = .returned (.tuple #[.int .u32 (RK.H sep.data.toList % 4294967296), .int .u32 (16777619 ^ sep.size % 4294967296)]) ∧ w' = w := Any.bytealg_hashStr Try.lays314 sep hs w
def Try.lays267_ren : Go.Shelf.Ren := ⟨fun | 267 => 119 | 314 => 121 | n => n, fun | 9 => 9 | 3 => 3 | 146 => 164 | 51 => 163 | 4 => 4 | 5 => 5 | 46 => 70 | n => n, fun | n => n⟩
theorem Try.lays267 : Go.Proofs.Lays.n267 Try.prog Try.lays267_ren := {
  mixed := by kernel_rfl
  f267 := Try.func119.trans (congrArg some (by kernel_rfl))
  f314 := Try.func121.trans (congrArg some (by kernel_rfl))
  t3 := Try.underlying3
  a3 := Try.isAgg3
  z3 := Try.sizeOf3
  v3 := Try.zeroValue3
  t4 := Try.underlying4
  a4 := Try.isAgg4
  z4 := Try.sizeOf4
  v4 := Try.zeroValue4
  t5 := Try.underlying5
  a5 := Try.isAgg5
  z5 := Try.sizeOf5
  v5 := Try.zeroValue5
  t9 := Try.underlying9
  a9 := Try.isAgg9
  z9 := Try.sizeOf9
  v9 := Try.zeroValue9
  t46 := Try.underlying70
  a46 := Try.isAgg70
  z46 := Try.sizeOf70
  v46 := Try.zeroValue70
  t51 := Try.underlying163
  a51 := Try.isAgg163
  z51 := Try.sizeOf163
  v51 := Try.zeroValue163
  t146 := Try.underlying164
  a146 := Try.isAgg164
  z146 := Try.sizeOf164
  v146 := Try.zeroValue164 }
open Go.RowKit Go.Lib in
theorem Try.bytealg_IndexRabinKarp (s sep : ByteArray) (h1 : 1 ≤ sep.size) (h2 : sep.size ≤ s.size) (hs : s.size < 4294967281) (w : World) :
    Calls Try.prog 119 #[.string s, .string sep] w fun e w' => e = .returned (.int .i64 (Lib.index s.data.toList sep.data.toList)) ∧ w' = w := Any.bytealg_IndexRabinKarp Try.lays267 s sep h1 h2 hs w
def Try.lays219_ren : Go.Shelf.Ren := ⟨fun | 219 => 115 | 217 => 116 | 225 => 117 | 224 => 118 | 267 => 119 | 266 => 120 | 314 => 121 | n => n, fun | 9 => 9 | 3 => 3 | 4 => 4 | 5 => 5 | 46 => 70 | 146 => 164 | 51 => 163 | n => n, fun | 1 => 0 | n => n⟩
theorem Try.lays219 : Go.Proofs.Lays.n219 Try.prog Try.lays219_ren := {
  mixed := by kernel_rfl
  f217 := Try.func116.trans (congrArg some (by kernel_rfl))
  f219 := Try.func115.trans (congrArg some (by kernel_rfl))
  f224 := Try.func118.trans (congrArg some (by kernel_rfl))
  f225 := Try.func117.trans (congrArg some (by kernel_rfl))
  f266 := Try.func120.trans (congrArg some (by kernel_rfl))
  f267 := Try.func119.trans (congrArg some (by kernel_rfl))
  f314 := Try.func121.trans (congrArg some (by kernel_rfl))
  t3 := Try.underlying3
  a3 := Try.isAgg3
  z3 := Try.sizeOf3
  v3 := Try.zeroValue3
  t4 := Try.underlying4
  a4 := Try.isAgg4
  z4 := Try.sizeOf4
  v4 := Try.zeroValue4
  t5 := Try.underlying5
  a5 := Try.isAgg5
  z5 := Try.sizeOf5
  v5 := Try.zeroValue5
  t9 := Try.underlying9
  a9 := Try.isAgg9
  z9 := Try.sizeOf9
  v9 := Try.zeroValue9
  t46 := Try.underlying70
  a46 := Try.isAgg70
  z46 := Try.sizeOf70
  v46 := Try.zeroValue70
  t51 := Try.underlying163
  a51 := Try.isAgg163
  z51 := Try.sizeOf163
  v51 := Try.zeroValue163
  t146 := Try.underlying164
  a146 := Try.isAgg164
  z146 := Try.sizeOf164
  v146 := Try.zeroValue164
  g1 := by kernel_rfl }
open Go.RowKit Go.Lib in
/-- internal/stringslite.Index (what strings.Index calls) AT A substr OF ONE BYTE c: IT RETURNS 'Lib.indexByte s c'; the world is as it was. (LAID: no walk: one application.) -/
theorem Try.stringslite_Index_one (s : ByteArray) (c : UInt8) (w : World) :
    Calls Try.prog 115 #[.string s, .string ⟨#[c]⟩] w fun e w' => e = .returned (.int .i64 (Lib.indexByte s.data.toList c)) ∧ w' = w := Any.stringslite_Index_one Try.lays219 s c w
open Go.RowKit Go.Lib in
/-- internal/stringslite.Index (what strings.Index calls) AT A substr OF WHATEVER LENGTH: IT RETURNS 'Lib.index s substr'; the world is as it was. 'm': what internal/bytealg.MaxLen holds: whatever. (LAID: no walk: one application.) -/
theorem Try.stringslite_Index (s sub : ByteArray) (m : Int) (w : World) (hs : s.size < 4294967281) (hm : w.cell? ⟨0, 0, none⟩ = some (.int .i64 m)) :
    Calls Try.prog 115 #[.string s, .string sub] w fun e w' => e = .returned (.int .i64 (Lib.index s.data.toList sub.data.toList)) ∧ w' = w := Any.stringslite_Index Try.lays219 s sub m w hs hm
def Try.lays143_ren : Go.Shelf.Ren := ⟨fun | 143 => 111 | 219 => 115 | 217 => 116 | 225 => 117 | 224 => 118 | 267 => 119 | 266 => 120 | 314 => 121 | n => n, fun | 9 => 9 | 3 => 3 | 4 => 4 | 5 => 5 | 46 => 70 | 146 => 164 | 51 => 163 | n => n, fun | 1 => 0 | n => n⟩
theorem Try.lays143 : Go.Proofs.Lays.n143 Try.prog Try.lays143_ren := {
  mixed := by kernel_rfl
  f143 := Try.func111.trans (congrArg some (by kernel_rfl))
  f217 := Try.func116.trans (congrArg some (by kernel_rfl))
  f219 := Try.func115.trans (congrArg some (by kernel_rfl))
  f224 := Try.func118.trans (congrArg some (by kernel_rfl))
  f225 := Try.func117.trans (congrArg some (by kernel_rfl))
  f266 := Try.func120.trans (congrArg some (by kernel_rfl))
  f267 := Try.func119.trans (congrArg some (by kernel_rfl))
  f314 := Try.func121.trans (congrArg some (by kernel_rfl))
  t3 := Try.underlying3
  a3 := Try.isAgg3
  z3 := Try.sizeOf3
  v3 := Try.zeroValue3
  t4 := Try.underlying4
  a4 := Try.isAgg4
  z4 := Try.sizeOf4
  v4 := Try.zeroValue4
  t5 := Try.underlying5
  a5 := Try.isAgg5
  z5 := Try.sizeOf5
  v5 := Try.zeroValue5
  t9 := Try.underlying9
  a9 := Try.isAgg9
  z9 := Try.sizeOf9
  v9 := Try.zeroValue9
  t46 := Try.underlying70
  a46 := Try.isAgg70
  z46 := Try.sizeOf70
  v46 := Try.zeroValue70
  t51 := Try.underlying163
  a51 := Try.isAgg163
  z51 := Try.sizeOf163
  v51 := Try.zeroValue163
  t146 := Try.underlying164
  a146 := Try.isAgg164
  z146 := Try.sizeOf164
  v146 := Try.zeroValue164
  g1 := by kernel_rfl }
open Go.RowKit Go.Lib in
/-- strings.Index: "Index returns the index of the first instance of substr in s, or -1 if substr is not present in s.": AT A substr OF ONE BYTE c: IT RETURNS 'Lib.indexByte s c'; the world is as it was. (LAID: no walk: one application.) -/
theorem Try.strings_Index_one (s : ByteArray) (c : UInt8) (w : World) :
    Calls Try.prog 111 #[.string s, .string ⟨#[c]⟩] w fun e w' => e = .returned (.int .i64 (Lib.indexByte s.data.toList c)) ∧ w' = w := Any.strings_Index_one Try.lays143 s c w
open Go.RowKit Go.Lib in
/-- strings.Index: "Index returns the index of the first instance of substr in s, or -1 if substr is not present in s.": IT RETURNS 'Lib.index s substr'; the world is as it was. (LAID: no walk: one application.) -/
theorem Try.strings_Index (s sub : ByteArray) (m : Int) (w : World) (hs : s.size < 4294967281) (hm : w.cell? ⟨0, 0, none⟩ = some (.int .i64 m)) :
    Calls Try.prog 111 #[.string s, .string sub] w fun e w' => e = .returned (.int .i64 (Lib.index s.data.toList sub.data.toList)) ∧ w' = w := Any.strings_Index Try.lays143 s sub m w hs hm
def Try.lays144_ren : Go.Shelf.Ren := ⟨fun | 144 => 96 | 143 => 111 | 219 => 115 | 217 => 116 | 225 => 117 | 224 => 118 | 267 => 119 | 266 => 120 | 314 => 121 | n => n, fun | 9 => 9 | 4 => 4 | 3 => 3 | 5 => 5 | 46 => 70 | 146 => 164 | 51 => 163 | n => n, fun | 1 => 0 | n => n⟩
theorem Try.lays144 : Go.Proofs.Lays.n144 Try.prog Try.lays144_ren := {
  mixed := by kernel_rfl
  f143 := Try.func111.trans (congrArg some (by kernel_rfl))
  f144 := Try.func96.trans (congrArg some (by kernel_rfl))
  f217 := Try.func116.trans (congrArg some (by kernel_rfl))
  f219 := Try.func115.trans (congrArg some (by kernel_rfl))
  f224 := Try.func118.trans (congrArg some (by kernel_rfl))
  f225 := Try.func117.trans (congrArg some (by kernel_rfl))
  f266 := Try.func120.trans (congrArg some (by kernel_rfl))
  f267 := Try.func119.trans (congrArg some (by kernel_rfl))
  f314 := Try.func121.trans (congrArg some (by kernel_rfl))
  t3 := Try.underlying3
  a3 := Try.isAgg3
  z3 := Try.sizeOf3
  v3 := Try.zeroValue3
  t4 := Try.underlying4
  a4 := Try.isAgg4
  z4 := Try.sizeOf4
  v4 := Try.zeroValue4
  t5 := Try.underlying5
  a5 := Try.isAgg5
  z5 := Try.sizeOf5
  v5 := Try.zeroValue5
  t9 := Try.underlying9
  a9 := Try.isAgg9
  z9 := Try.sizeOf9
  v9 := Try.zeroValue9
  t46 := Try.underlying70
  a46 := Try.isAgg70
  z46 := Try.sizeOf70
  v46 := Try.zeroValue70
  t51 := Try.underlying163
  a51 := Try.isAgg163
  z51 := Try.sizeOf163
  v51 := Try.zeroValue163
  t146 := Try.underlying164
  a146 := Try.isAgg164
  z146 := Try.sizeOf164
  v146 := Try.zeroValue164
  g1 := by kernel_rfl }
open Go.RowKit Go.Lib in
/-- strings.Contains: "Contains reports whether substr is within s.": AT A substr OF ONE BYTE c: IT RETURNS 'decide (0 ≤ Lib.indexByte s c)'; the world is as it was. (LAID: no walk: one application.) -/
theorem Try.strings_Contains_one (s : ByteArray) (c : UInt8) (w : World) :
    Calls Try.prog 96 #[.string s, .string ⟨#[c]⟩] w fun e w' => e = .returned (.bool (decide (0 ≤ Lib.indexByte s.data.toList c))) ∧ w' = w := Any.strings_Contains_one Try.lays144 s c w
open Go.RowKit Go.Lib in
/-- strings.Contains: "Contains reports whether substr is within s.": IT RETURNS 'Lib.contains s substr'; the world is as it was. (LAID: no walk: one application.) -/
theorem Try.strings_Contains (s sub : ByteArray) (m : Int) (w : World) (hs : s.size < 4294967281) (hm : w.cell? ⟨0, 0, none⟩ = some (.int .i64 m)) :
    Calls Try.prog 96 #[.string s, .string sub] w fun e w' => e = .returned (.bool (Lib.contains s.data.toList sub.data.toList)) ∧ w' = w := Any.strings_Contains Try.lays144 s sub m w hs hm
def Try.laysM219_ren : Go.Shelf.Ren := ⟨fun | 219 => 115 | 217 => 116 | 225 => 117 | 224 => 118 | 267 => 119 | 266 => 120 | 314 => 121 | n => n, fun | 9 => 9 | 3 => 3 | 4 => 4 | 5 => 5 | 46 => 70 | 146 => 164 | 51 => 163 | n => n, fun | 1 => 0 | n => n⟩
theorem Try.laysM219 : Go.Proofs.LaysM.n219 Try.prog Try.laysM219_ren := {
  mixed := by kernel_rfl
  f217 := Try.func116.trans (congrArg some (by kernel_rfl))
  f219 := Try.func115.trans (congrArg some (by kernel_rfl))
  f224 := Try.func118.trans (congrArg some (by kernel_rfl))
  f225 := Try.func117.trans (congrArg some (by kernel_rfl))
  f266 := Try.func120.trans (congrArg some (by kernel_rfl))
  f267 := Try.func119.trans (congrArg some (by kernel_rfl))
  f314 := Try.func121.trans (congrArg some (by kernel_rfl))
  t3 := Try.underlying3
  a3 := Try.isAgg3
  z3 := Try.sizeOf3
  v3 := Try.zeroValue3
  t4 := Try.underlying4
  a4 := Try.isAgg4
  z4 := Try.sizeOf4
  v4 := Try.zeroValue4
  t5 := Try.underlying5
  a5 := Try.isAgg5
  z5 := Try.sizeOf5
  v5 := Try.zeroValue5
  t9 := Try.underlying9
  a9 := Try.isAgg9
  z9 := Try.sizeOf9
  v9 := Try.zeroValue9
  t46 := Try.underlying70
  a46 := Try.isAgg70
  z46 := Try.sizeOf70
  v46 := Try.zeroValue70
  t51 := Try.underlying163
  a51 := Try.isAgg163
  z51 := Try.sizeOf163
  v51 := Try.zeroValue163
  t146 := Try.underlying164
  a146 := Try.isAgg164
  z146 := Try.sizeOf164
  v146 := Try.zeroValue164
  g1 := by kernel_rfl
  i3 := by kernel_rfl
  i4 := by kernel_rfl
  i5 := by kernel_rfl
  i9 := by kernel_rfl
  i46 := by kernel_rfl
  i51 := by kernel_rfl
  i146 := by kernel_rfl
  m1 := by kernel_rfl
  s1_3 := fun w h => Go.Proofs.cell_of_shapedOpen_int (zero := #[.int .i64 0]) (t := 3) h (of_decide_eq_true (by kernel_rfl)) (by kernel_rfl) rfl (by kernel_rfl) (by kernel_rfl) Try.underlying3 }
open Go.RowKit Go.Lib in
theorem Try.stringslite_Index_shaped (s sub : ByteArray) (w : World) (h : w.ShapedOpen Try.prog) (hs : s.size < 4294967281) :
    Calls Try.prog 115 #[.string s, .string sub] w fun e w' => e = .returned (.int .i64 (Lib.index s.data.toList sub.data.toList)) ∧ w' = w := Any.stringslite_Index_shaped Try.laysM219 s sub w h hs
def Try.laysM143_ren : Go.Shelf.Ren := ⟨fun | 143 => 111 | 219 => 115 | 217 => 116 | 225 => 117 | 224 => 118 | 267 => 119 | 266 => 120 | 314 => 121 | n => n, fun | 9 => 9 | 3 => 3 | 4 => 4 | 5 => 5 | 46 => 70 | 146 => 164 | 51 => 163 | n => n, fun | 1 => 0 | n => n⟩
theorem Try.laysM143 : Go.Proofs.LaysM.n143 Try.prog Try.laysM143_ren := {
  mixed := by kernel_rfl
  f143 := Try.func111.trans (congrArg some (by kernel_rfl))
  f217 := Try.func116.trans (congrArg some (by kernel_rfl))
  f219 := Try.func115.trans (congrArg some (by kernel_rfl))
  f224 := Try.func118.trans (congrArg some (by kernel_rfl))
  f225 := Try.func117.trans (congrArg some (by kernel_rfl))
  f266 := Try.func120.trans (congrArg some (by kernel_rfl))
  f267 := Try.func119.trans (congrArg some (by kernel_rfl))
  f314 := Try.func121.trans (congrArg some (by kernel_rfl))
  t3 := Try.underlying3
  a3 := Try.isAgg3
  z3 := Try.sizeOf3
  v3 := Try.zeroValue3
  t4 := Try.underlying4
  a4 := Try.isAgg4
  z4 := Try.sizeOf4
  v4 := Try.zeroValue4
  t5 := Try.underlying5
  a5 := Try.isAgg5
  z5 := Try.sizeOf5
  v5 := Try.zeroValue5
  t9 := Try.underlying9
  a9 := Try.isAgg9
  z9 := Try.sizeOf9
  v9 := Try.zeroValue9
  t46 := Try.underlying70
  a46 := Try.isAgg70
  z46 := Try.sizeOf70
  v46 := Try.zeroValue70
  t51 := Try.underlying163
  a51 := Try.isAgg163
  z51 := Try.sizeOf163
  v51 := Try.zeroValue163
  t146 := Try.underlying164
  a146 := Try.isAgg164
  z146 := Try.sizeOf164
  v146 := Try.zeroValue164
  g1 := by kernel_rfl
  i3 := by kernel_rfl
  i4 := by kernel_rfl
  i5 := by kernel_rfl
  i9 := by kernel_rfl
  i46 := by kernel_rfl
  i51 := by kernel_rfl
  i146 := by kernel_rfl
  m1 := by kernel_rfl
  s1_3 := fun w h => Go.Proofs.cell_of_shapedOpen_int (zero := #[.int .i64 0]) (t := 3) h (of_decide_eq_true (by kernel_rfl)) (by kernel_rfl) rfl (by kernel_rfl) (by kernel_rfl) Try.underlying3 }
open Go.RowKit Go.Lib in
theorem Try.strings_Index_shaped (s sub : ByteArray) (w : World) (h : w.ShapedOpen Try.prog) (hs : s.size < 4294967281) :
    Calls Try.prog 111 #[.string s, .string sub] w fun e w' => e = .returned (.int .i64 (Lib.index s.data.toList sub.data.toList)) ∧ w' = w := Any.strings_Index_shaped Try.laysM143 s sub w h hs
def Try.laysM144_ren : Go.Shelf.Ren := ⟨fun | 144 => 96 | 143 => 111 | 219 => 115 | 217 => 116 | 225 => 117 | 224 => 118 | 267 => 119 | 266 => 120 | 314 => 121 | n => n, fun | 9 => 9 | 4 => 4 | 3 => 3 | 5 => 5 | 46 => 70 | 146 => 164 | 51 => 163 | n => n, fun | 1 => 0 | n => n⟩
theorem Try.laysM144 : Go.Proofs.LaysM.n144 Try.prog Try.laysM144_ren := {
  mixed := by kernel_rfl
  f143 := Try.func111.trans (congrArg some (by kernel_rfl))
  f144 := Try.func96.trans (congrArg some (by kernel_rfl))
  f217 := Try.func116.trans (congrArg some (by kernel_rfl))
  f219 := Try.func115.trans (congrArg some (by kernel_rfl))
  f224 := Try.func118.trans (congrArg some (by kernel_rfl))
  f225 := Try.func117.trans (congrArg some (by kernel_rfl))
  f266 := Try.func120.trans (congrArg some (by kernel_rfl))
  f267 := Try.func119.trans (congrArg some (by kernel_rfl))
  f314 := Try.func121.trans (congrArg some (by kernel_rfl))
  t3 := Try.underlying3
  a3 := Try.isAgg3
  z3 := Try.sizeOf3
  v3 := Try.zeroValue3
  t4 := Try.underlying4
  a4 := Try.isAgg4
  z4 := Try.sizeOf4
  v4 := Try.zeroValue4
  t5 := Try.underlying5
  a5 := Try.isAgg5
  z5 := Try.sizeOf5
  v5 := Try.zeroValue5
  t9 := Try.underlying9
  a9 := Try.isAgg9
  z9 := Try.sizeOf9
  v9 := Try.zeroValue9
  t46 := Try.underlying70
  a46 := Try.isAgg70
  z46 := Try.sizeOf70
  v46 := Try.zeroValue70
  t51 := Try.underlying163
  a51 := Try.isAgg163
  z51 := Try.sizeOf163
  v51 := Try.zeroValue163
  t146 := Try.underlying164
  a146 := Try.isAgg164
  z146 := Try.sizeOf164
  v146 := Try.zeroValue164
  g1 := by kernel_rfl
  i3 := by kernel_rfl
  i4 := by kernel_rfl
  i5 := by kernel_rfl
  i9 := by kernel_rfl
  i46 := by kernel_rfl
  i51 := by kernel_rfl
  i146 := by kernel_rfl
  m1 := by kernel_rfl
  s1_3 := fun w h => Go.Proofs.cell_of_shapedOpen_int (zero := #[.int .i64 0]) (t := 3) h (of_decide_eq_true (by kernel_rfl)) (by kernel_rfl) rfl (by kernel_rfl) (by kernel_rfl) Try.underlying3 }
open Go.RowKit Go.Lib in
theorem Try.strings_Contains_shaped (s sub : ByteArray) (w : World) (h : w.ShapedOpen Try.prog) (hs : s.size < 4294967281) :
    Calls Try.prog 96 #[.string s, .string sub] w fun e w' => e = .returned (.bool (Lib.contains s.data.toList sub.data.toList)) ∧ w' = w := Any.strings_Contains_shaped Try.laysM144 s sub w h hs
end Go.Proofs
end
