/- Several texts in one, in their order. -/
import Derived.Test.YtclabjihjopclaaPart2
import Derived.Test.YtclabjihjopclaaAx24
import Derived.Test.YtclabjihjopclaaAxZ
import Derived.Test.YtclabjihjopclaaAxBk
section
/- Layer 19: pair.At. -/
namespace Go.Proofs.Ytclabjihjopclaa.Ax
open Go.RowKit
set_option linter.unusedVariables false
set_option linter.unusedSimpArgs false
theorem backI2_ok : BackOK Try.prog 141 none :=
  backward_ok (fn := Try.f141) (t := 22) (u := 3) (by kernel_rfl) rfl rfl rfl (by kernel_rfl) (by kernel_rfl) (by kernel_rfl) (by kernel_rfl) ⟨rfl, rfl, rfl⟩ ⟨rfl, rfl, rfl⟩ ⟨rfl, rfl, rfl⟩ ⟨rfl, rfl, rfl⟩ ⟨rfl, rfl, rfl⟩ ⟨rfl, rfl, rfl⟩ ⟨rfl, rfl, rfl⟩ ⟨rfl, rfl, rfl⟩ ⟨rfl, rfl, rfl⟩ ⟨rfl, rfl, rfl⟩ ⟨rfl, rfl, rfl⟩ ⟨rfl, rfl, rfl⟩ ⟨rfl, rfl, rfl⟩ ⟨rfl, rfl, rfl⟩ ⟨rfl, rfl, rfl⟩ ⟨rfl, rfl, rfl⟩ ⟨rfl, rfl, rfl⟩
def bkI (g : FuncId) : Option (Option Nat × List Kd) := if g = 141 then some (none, [.int .i64]) else none
theorem bkI_bk : BksOK Try.prog bkI := by
  intro g sh h
  unfold bkI at h
  split at h
  · rename_i hg; subst hg; cases h
    exact ⟨backI2_ok, ⟨Try.f141, by kernel_rfl, by decide +kernel, by kernel_rfl⟩⟩
  · cases h
noncomputable def Z_fill : Zo := mkZ Try.prog 0 [(95, ⟨400000, fun _ => none, fun _ => none⟩)] bkI
theorem Z_fill_ok : ZOK Try.prog 1 Z_fill := zok_mk fun p hp => by
  simp only [List.mem_cons, List.not_mem_nil, or_false] at hp
  subst hp
  exact zok_none _ _ _
def rdL0 : List A → List Int × Unit
  | [.c (.sl l)] => (listOf Int l, ())
  | _ => default
def c_bkI : FT (List Int × Unit) := ⟨129, fun x => [al x.1], rdL0, fun x => True, fun x => .c (.d (.fn 141 [.rptr [.sl (rowsOn x.1)]])), true, fun x => by simp [al, rdL0]⟩
noncomputable def a_bkI : FnA := (fnA Try.prog Try.f129 1 []).getD ⟨0, .skip, [], []⟩
def s_bkI : Sp := spT []
theorem s_bkI_sound : s_bkI.sound Try.prog := spT_sound fun e he => by cases he
set_option maxRecDepth 100000 in
theorem t_bkI (l : List Int) : a_bkI.start s_bkI 400 [al l] =
(VC.ret (some (RR.c (Rc.d (D.fn (141 : Nat) [D.rptr [D.sl (rowsOn l)]]))))) := by kernel_rfl
theorem c_bkI_good : c_bkI.fe.Good Try.prog := by
  refine FT.good c_bkI ⟨Try.f129, by kernel_rfl, by decide +kernel, by kernel_rfl⟩ (fun ⟨l, u⟩ => by first | rfl | simp [c_bkI, rrRef, rsplit, rnewI, rnewE, rstab, rplaces, ri, rb, rib, rnum, rby, rss, Sta.fresh]) fun ⟨l, u⟩ hp => ?_
  refine acalls_le s_bkI_sound (fn := Try.f129) (a := a_bkI) (nargs := 1) (tbl := []) (by kernel_rfl) (by kernel_rfl) rfl (m := 400) ?_
  show VC.holds _ _ _ (a_bkI.start s_bkI 400 [al l])
  rw [t_bkI]
  try simp only [asRows_sl, asInt_int, asBool_bool, asStr_str, listOf_rowsOn, List.drop_zero, Prg.eta, Sta.eta, rowsOn_length, getD_drop, Nat.reduceAdd, rd_int, rd_PMem_name, rd_PMem_secret, rd_PMem_n, rd_PLabel_name, rd_PLabel_at_, rd_Ins_kind, rd_Ins_op, rd_Ins_d, rd_Ins_aR, rd_Ins_aN, rd_Ins_bR, rd_Ins_bN, rd_Ins_name, rd_Ins_target, rd_Ent_pc, rd_Ent_val, rd_Ent_addr, rd_Ent_fro, rd_Ent_next, rd_Ent_done, rd_Ent_known, rd_Ent_fault, rd_Place_reg, rd_Place_n, rd_Place_secret, rd_Obs_kind, rd_Obs_at_, rd_Dir_kind, rd_Dir_n, Prg.of_cells, Sta.of_cells]
  try simp only [c_bkI] at hp
  repeat' first
    | refine br_not ?_
    | refine br_dec (fun _ => ?_) (fun _ => ?_)
    | refine br_beq (fun _ => ?_) (fun _ => ?_)
    | refine br_bne (fun _ => ?_) (fun _ => ?_)
    | refine br_holds (fun _ => ?_) (fun _ => ?_)
    | refine ⟨PreOk.mk ?_ rfl, ?_⟩
    | refine ⟨idx_ok _ _ _ rfl (by omega) (by omega), ?_⟩
    | refine ⟨okSh_ok _ _ _ (fun _ => rfl) (by omega) (by omega), ?_⟩
    | refine ⟨okSh_okD _ _ _ _ (fun _ => rfl) (by omega) (by omega), ?_⟩
    | refine ⟨aload_ok _ _ rfl (fun _ => rfl) (by omega) (by omega), ?_⟩
    | refine ⟨aload_okD _ _ _ rfl (fun _ => rfl) (by omega) (by omega), ?_⟩
    | refine ⟨astore_ok (by assumption) rfl (by omega) (by omega) (by decide), ?_⟩
    | refine ⟨app_ok (by assumption) rfl rfl (by simp only [List.length_cons, List.length_nil]; omega), ?_⟩
    | refine need_holds ?_ fun _ => ?_
    | refine all_holds fun y hy => ?_
    | refine ret_le ?_
  exact RR.le_refl _
noncomputable def v_aStart : Prg × List Int → Sta × Bool := fun x => startS x.1 x.2
noncomputable def sh_aStart : Sta × Bool → RR := fun y => rstab y
theorem e_aStart (x : Prg × List Int) : sh_aStart (v_aStart x) = c_aStart.ans x := rfl
def rpair (x : Sta × Sta × Bool) : RR := .tup [.inr x.1.fresh, .inr x.2.1.fresh, .inl (.d (.bool x.2.2))]
def c_pAt : FT (Prg × Int) := ⟨45, fun x => [ap x.1, ai x.2], rdPIq, fun x => okW x.1.w ∧ Mems x.1.mems, fun x => rpair (atP x.1 x.2), false, fun x => by simp [ap, ai, rdPIq]⟩
noncomputable def a_pAt : FnA := (fnAZ Try.prog Z_fill Try.f45 2 [(7, [1, 2, 4, 5, 7, 8, 9, 10, 11, 12]), (1000000018, [1, 2, 4, 5, 7, 8, 10, 11, 12, 13, 14, 1000013000000900001001, 1000014000000900002001]), (1000000019, [1, 2, 4, 5, 7, 8, 10, 11, 12, 13, 14, 1000013000000900001001, 1000014000000900002001]), (1000000020, [2, 4, 5, 8, 11, 12, 13, 14, 1000013000000900001001, 1000014000000900002001]), (1000000021, [2, 4, 5, 8, 11, 12, 13, 14, 1000013000000900001001, 1000014000000900002001]), (1000000022, [2, 4, 5, 13, 14, 1000013000000900001001, 1000014000000900002001])]).getD ⟨0, .skip, [], []⟩
noncomputable def v_split : Prg → List Int × List Int := fun x => (openS x, secS x)
noncomputable def sh_split : List Int × List Int → RR := fun y => rsplit y
theorem e_split (x : Prg) : sh_split (v_split x) = c_split.ans x := rfl
noncomputable def v_power : Prg × Int → Int := fun x => powS x.1 x.2.toNat
noncomputable def sh_power : Int → RR := fun y => ri y
theorem e_power (x : Prg × Int) : sh_power (v_power x) = c_power.ans x := rfl
noncomputable def v_twos : Int × Unit → Int := fun x => twoS x.1
noncomputable def sh_twos : Int → RR := fun y => ri y
theorem e_twos (x : Int × Unit) : sh_twos (v_twos x) = c_twos.ans x := rfl
noncomputable def s_pAt : Sp := spT [c_split.gfe v_split sh_split e_split, c_power.gfe v_power sh_power e_power, c_twos.gfe v_twos sh_twos e_twos, c_times.fe, c_wSize.fe, c_bkI.fe, c_aStart.gfe v_aStart sh_aStart e_aStart] bkI
theorem s_pAt_sound : s_pAt.sound Try.prog := spT_sound (hbk := bkI_bk) fun e he => by
  simp only [List.mem_cons, List.not_mem_nil, or_false] at he
  rcases he with rfl | rfl | rfl | rfl | rfl | rfl | rfl
  · exact FT.gfe_good c_split_good
  · exact FT.gfe_good c_power_good
  · exact FT.gfe_good c_twos_good
  · exact c_times_good
  · exact c_wSize_good
  · exact c_bkI_good
  · exact FT.gfe_good c_aStart_good
def zb : Blk := bc [.d (.int .i64 0), .d (.int .i64 0), .d (.int .i64 0), .d (.int .i64 0), .nil, .nil, .d (.int .i64 0)]
def F_pa0 (p : Prg) (i : Int) (op sc : List Int) (all each one rest : Int) : St := ⟨mkS 126 [(1, vi i), (2, vp 128), (4, vp 256), (5, vp 320), (7, vr (rowsOn op)), (8, vr (rowsOn sc)), (9, vi all), (10, vi each), (11, vi one), (12, vi rest)], [(128, bx p.cells), (256, zb), (320, zb)]⟩
def F_pa1 (p : Prg) (i : Int) (op sc : List Int) (each one rest : Int) (na nb : Nat) (X Y : List (List D)) : St := ⟨mkS 126 [(1, vi i), (2, vp 128), (4, vp 256), (5, vp 320), (7, vr (rowsOn op)), (8, vr (rowsOn sc)), (10, vi each), (11, vi one), (12, vi rest), (13, vo 900001 na), (14, vo 900002 nb)], [(128, bx p.cells), (256, zb), (320, zb), (900001, ba 1 X), (900002, ba 1 Y)]⟩
def F_pa2 (p : Prg) (sc : List Int) (one rest : Int) (na nb : Nat) (X Y : List (List D)) : St := ⟨mkS 126 [(2, vp 128), (4, vp 256), (5, vp 320), (8, vr (rowsOn sc)), (11, vi one), (12, vi rest), (13, vo 900001 na), (14, vo 900002 nb)], [(128, bx p.cells), (256, zb), (320, zb), (900001, ba 1 X), (900002, ba 1 Y)]⟩
def F_pa3 (p : Prg) (na nb : Nat) (X Y : List (List D)) : St := ⟨mkS 126 [(2, vp 128), (4, vp 256), (5, vp 320), (13, vo 900001 na), (14, vo 900002 nb)], [(128, bx p.cells), (256, zb), (320, zb), (900001, ba 1 X), (900002, ba 1 Y)]⟩
def F_c1 (p : Prg) (i : Int) (op sc : List Int) (each one rest : Int) (na nb : Nat) (n : Int) : St := ⟨mkS 126 [(1, vi i), (2, vp 128), (4, vp 256), (5, vp 320), (7, vr (rowsOn op)), (8, vr (rowsOn sc)), (10, vi each), (11, vi one), (12, vi rest), (13, vo 900001 na), (14, vo 900002 nb), (81, .agg [.d (.int .i64 p.w), .d (.int .i64 p.window), .d (.int .i64 p.fuel), .d (.int .i64 p.r0), .d (.int .i64 p.r1), .d (.int .i64 p.r2), .d (.int .i64 p.r3), .d (.sl (rowsOn p.mems)), .d (.sl (rowsOn p.labels)), .d (.sl (rowsOn p.ins))]), (82, vo 900001 na), (83, vr (rowsOn op)), (84, vi i), (85, vi each), (86, vi n)], []⟩
def F_c2 (p : Prg) (i : Int) (op sc : List Int) (each one rest : Int) (na nb : Nat) (n : Int) : St := ⟨mkS 126 [(1, vi i), (2, vp 128), (4, vp 256), (5, vp 320), (7, vr (rowsOn op)), (8, vr (rowsOn sc)), (10, vi each), (11, vi one), (12, vi rest), (13, vo 900001 na), (14, vo 900002 nb), (88, .agg [.d (.int .i64 p.w), .d (.int .i64 p.window), .d (.int .i64 p.fuel), .d (.int .i64 p.r0), .d (.int .i64 p.r1), .d (.int .i64 p.r2), .d (.int .i64 p.r3), .d (.sl (rowsOn p.mems)), .d (.sl (rowsOn p.labels)), .d (.sl (rowsOn p.ins))]), (89, vo 900002 nb), (90, vr (rowsOn op)), (91, vi i), (92, vi each), (93, vi n)], []⟩
def F_c3 (p : Prg) (sc : List Int) (one rest : Int) (na nb : Nat) : St := ⟨mkS 126 [(2, vp 128), (4, vp 256), (5, vp 320), (8, vr (rowsOn sc)), (11, vi one), (12, vi rest), (13, vo 900001 na), (14, vo 900002 nb), (95, .agg [.d (.int .i64 p.w), .d (.int .i64 p.window), .d (.int .i64 p.fuel), .d (.int .i64 p.r0), .d (.int .i64 p.r1), .d (.int .i64 p.r2), .d (.int .i64 p.r3), .d (.sl (rowsOn p.mems)), .d (.sl (rowsOn p.labels)), .d (.sl (rowsOn p.ins))]), (96, vo 900001 na), (97, vr (rowsOn sc)), (98, vi one)], []⟩
def F_c4 (p : Prg) (sc : List Int) (one rest : Int) (na nb : Nat) (m n : Int) : St := ⟨mkS 126 [(2, vp 128), (4, vp 256), (5, vp 320), (8, vr (rowsOn sc)), (11, vi one), (12, vi rest), (13, vo 900001 na), (14, vo 900002 nb), (100, .agg [.d (.int .i64 p.w), .d (.int .i64 p.window), .d (.int .i64 p.fuel), .d (.int .i64 p.r0), .d (.int .i64 p.r1), .d (.int .i64 p.r2), .d (.int .i64 p.r3), .d (.sl (rowsOn p.mems)), .d (.sl (rowsOn p.labels)), .d (.sl (rowsOn p.ins))]), (101, vo 900002 nb), (102, vr (rowsOn sc)), (103, vi one), (104, vi m), (105, vi rest), (106, vi n)], []⟩
def B_fa (p : Prg) (na : Nat) (X Y : List (List D)) (n : Int) : St := ⟨[], [(128, bx p.cells), (256, zb), (320, zb), (900001, ba 1 X), (900002, ba 1 Y), (400256, bx p.cells), (400320, bc [.own 900001 1 na]), (400448, bx [.int .i64 n])]⟩
def B_fb (p : Prg) (nb : Nat) (X Y : List (List D)) (n : Int) : St := ⟨[], [(128, bx p.cells), (256, zb), (320, zb), (900001, ba 1 X), (900002, ba 1 Y), (400256, bx p.cells), (400320, bc [.own 900002 1 nb]), (400448, bx [.int .i64 n])]⟩
def F_fa (p : Prg) (pl : List Int) (Z : List (List D)) (n0 : Int) (na : Nat) (X Y : List (List D)) (n : Int) : St := ⟨mkS 29 [(0, .agg [.d (.int .i64 p.w), .d (.int .i64 p.window), .d (.int .i64 p.fuel), .d (.int .i64 p.r0), .d (.int .i64 p.r1), .d (.int .i64 p.r2), .d (.int .i64 p.r3), .d (.sl (rowsOn p.mems)), .d (.sl (rowsOn p.labels)), .d (.sl (rowsOn p.ins))]), (1, vo 900001 na), (2, vr (rowsOn pl)), (3, vi n0), (4, vp 400256), (5, vp 400320), (7, vp 400448), (10, vr (rowsOn pl)), (11, .c (.d (.fn 141 [.rptr [.sl Z]])))], [(128, bx p.cells), (256, zb), (320, zb), (900001, ba 1 X), (900002, ba 1 Y), (400256, bx p.cells), (400320, bc [.own 900001 1 na]), (400448, bx [.int .i64 n])]⟩
def F_fb (p : Prg) (pl : List Int) (Z : List (List D)) (n0 : Int) (nb : Nat) (X Y : List (List D)) (n : Int) : St := ⟨mkS 29 [(0, .agg [.d (.int .i64 p.w), .d (.int .i64 p.window), .d (.int .i64 p.fuel), .d (.int .i64 p.r0), .d (.int .i64 p.r1), .d (.int .i64 p.r2), .d (.int .i64 p.r3), .d (.sl (rowsOn p.mems)), .d (.sl (rowsOn p.labels)), .d (.sl (rowsOn p.ins))]), (1, vo 900002 nb), (2, vr (rowsOn pl)), (3, vi n0), (4, vp 400256), (5, vp 400320), (7, vp 400448), (10, vr (rowsOn pl)), (11, .c (.d (.fn 141 [.rptr [.sl Z]])))], [(128, bx p.cells), (256, zb), (320, zb), (900001, ba 1 X), (900002, ba 1 Y), (400256, bx p.cells), (400320, bc [.own 900002 1 nb]), (400448, bx [.int .i64 n])]⟩
set_option maxRecDepth 100000 in
theorem t_pAt (p : Prg) (i : Int) : a_pAt.start s_pAt 400 [ap p, ai i] =
(VC.need (PreOk c_split p [A.agg (Prg.cells p)])
(VC.all ((openS { w := p.w, window := p.window, fuel := p.fuel, r0 := p.r0, r1 := p.r1, r2 := p.r2, r3 := p.r3, mems := listOf PMem (rowsOn p.mems), labels := listOf PLabel (rowsOn p.labels), ins := listOf Ins (rowsOn p.ins) }, secS { w := p.w, window := p.window, fuel := p.fuel, r0 := p.r0, r1 := p.r1, r2 := p.r2, r3 := p.r3, mems := listOf PMem (rowsOn p.mems), labels := listOf PLabel (rowsOn p.labels), ins := listOf Ins (rowsOn p.ins) })) fun (y2 : List Int × List Int) =>
(VC.need (PreOk c_power (Prg.of (Prg.cells p), (↑(List.length (rowsOn y2.snd)) : Int)) [A.agg (Prg.cells p), A.c (D.int IntKind.i64 (↑(List.length (rowsOn y2.snd)) : Int))])
(VC.all (v_power (Prg.of (Prg.cells p), (↑(List.length (rowsOn y2.snd)) : Int))) fun (y3 : Int) =>
(VC.need (PreOk c_twos (y3, ()) [A.c (D.int IntKind.i64 y3)])
(VC.all (v_twos (y3, ())) fun (y4 : Int) =>
(VC.br (decide (i < (0 : Int)))
 (VC.ret (some (RR.tup [Sum.inr [Rc.d (D.int IntKind.i64 (0 : Int)), Rc.d (D.int IntKind.i64 (0 : Int)), Rc.d (D.int IntKind.i64 (0 : Int)), Rc.d (D.int IntKind.i64 (0 : Int)), Rc.nil, Rc.nil, Rc.d (D.int IntKind.i64 (0 : Int))], Sum.inr [Rc.d (D.int IntKind.i64 (0 : Int)), Rc.d (D.int IntKind.i64 (0 : Int)), Rc.d (D.int IntKind.i64 (0 : Int)), Rc.d (D.int IntKind.i64 (0 : Int)), Rc.nil, Rc.nil, Rc.d (D.int IntKind.i64 (0 : Int))], Sum.inl (Rc.d (D.bool false))])))
 (VC.br (decide ((1000000 : Int) ≤ i))
  (VC.ret (some (RR.tup [Sum.inr [Rc.d (D.int IntKind.i64 (0 : Int)), Rc.d (D.int IntKind.i64 (0 : Int)), Rc.d (D.int IntKind.i64 (0 : Int)), Rc.d (D.int IntKind.i64 (0 : Int)), Rc.nil, Rc.nil, Rc.d (D.int IntKind.i64 (0 : Int))], Sum.inr [Rc.d (D.int IntKind.i64 (0 : Int)), Rc.d (D.int IntKind.i64 (0 : Int)), Rc.d (D.int IntKind.i64 (0 : Int)), Rc.d (D.int IntKind.i64 (0 : Int)), Rc.nil, Rc.nil, Rc.d (D.int IntKind.i64 (0 : Int))], Sum.inl (Rc.d (D.bool false))])))
  (VC.br (y4 == (0 : Int))
   (VC.ret (some (RR.tup [Sum.inr [Rc.d (D.int IntKind.i64 (0 : Int)), Rc.d (D.int IntKind.i64 (0 : Int)), Rc.d (D.int IntKind.i64 (0 : Int)), Rc.d (D.int IntKind.i64 (0 : Int)), Rc.nil, Rc.nil, Rc.d (D.int IntKind.i64 (0 : Int))], Sum.inr [Rc.d (D.int IntKind.i64 (0 : Int)), Rc.d (D.int IntKind.i64 (0 : Int)), Rc.d (D.int IntKind.i64 (0 : Int)), Rc.d (D.int IntKind.i64 (0 : Int)), Rc.nil, Rc.nil, Rc.d (D.int IntKind.i64 (0 : Int))], Sum.inl (Rc.d (D.bool false))])))
   (VC.need (y4 ≠ (0 : Int))
   (VC.need (PreOk c_power (Prg.of (Prg.cells p), (↑(List.length (rowsOn y2.fst)) : Int)) [A.agg (Prg.cells p), A.c (D.int IntKind.i64 (↑(List.length (rowsOn y2.fst)) : Int))])
   (VC.all (v_power (Prg.of (Prg.cells p), (↑(List.length (rowsOn y2.fst)) : Int))) fun (y5 : Int) =>
   (VC.br (decide (y5 ≤ IntKind.wrap IntKind.i64 (Int.tdiv i y4)))
    (VC.ret (some (RR.tup [Sum.inr [Rc.d (D.int IntKind.i64 (0 : Int)), Rc.d (D.int IntKind.i64 (0 : Int)), Rc.d (D.int IntKind.i64 (0 : Int)), Rc.d (D.int IntKind.i64 (0 : Int)), Rc.nil, Rc.nil, Rc.d (D.int IntKind.i64 (0 : Int))], Sum.inr [Rc.d (D.int IntKind.i64 (0 : Int)), Rc.d (D.int IntKind.i64 (0 : Int)), Rc.d (D.int IntKind.i64 (0 : Int)), Rc.d (D.int IntKind.i64 (0 : Int)), Rc.nil, Rc.nil, Rc.d (D.int IntKind.i64 (0 : Int))], Sum.inl (Rc.d (D.bool false))])))
    (VC.need (y4 ≠ (0 : Int))
    (FnA.at_ a_pAt 0 (F_pa0 p i y2.fst y2.snd y3 y4 (0 : Int) (Int.tmod i y4))))))))))))))))) := by kernel_rfl
set_option maxRecDepth 100000 in
theorem t_pa0 (p : Prg) (i : Int) (op sc : List Int) (all each one rest : Int) : a_pAt.round s_pAt 400 0 (F_pa0 p i op sc all each one rest) =
(VC.br (decide (IntKind.wrap IntKind.i64 (IntKind.wrap IntKind.i64 (all - (1 : Int)) - one) ≤ rest))
 (FnA.at_ a_pAt 0 (F_pa0 p i op sc all each (IntKind.wrap IntKind.i64 (one + (1 : Int))) (IntKind.wrap IntKind.i64 (rest - IntKind.wrap IntKind.i64 (IntKind.wrap IntKind.i64 (all - (1 : Int)) - one)))))
 (VC.need (IntKind.wrap IntKind.i64 ((↑(List.length (rowsOn op)) : Int) + (↑(List.length (rowsOn sc)) : Int)) = IntKind.wrap IntKind.i64 ((↑(List.length (rowsOn op)) : Int) + (↑(List.length (rowsOn sc)) : Int)) ∧ (0 : Int) ≤ IntKind.wrap IntKind.i64 ((↑(List.length (rowsOn op)) : Int) + (↑(List.length (rowsOn sc)) : Int)) ∧ (9 : Int) * IntKind.wrap IntKind.i64 ((↑(List.length (rowsOn op)) : Int) + (↑(List.length (rowsOn sc)) : Int)) ≤ (140737488355328 : Int))
 (VC.need (IntKind.wrap IntKind.i64 ((↑(List.length (rowsOn op)) : Int) + (↑(List.length (rowsOn sc)) : Int)) = IntKind.wrap IntKind.i64 ((↑(List.length (rowsOn op)) : Int) + (↑(List.length (rowsOn sc)) : Int)) ∧ (0 : Int) ≤ IntKind.wrap IntKind.i64 ((↑(List.length (rowsOn op)) : Int) + (↑(List.length (rowsOn sc)) : Int)) ∧ (9 : Int) * IntKind.wrap IntKind.i64 ((↑(List.length (rowsOn op)) : Int) + (↑(List.length (rowsOn sc)) : Int)) ≤ (140737488355328 : Int))
 (FnA.at_ a_pAt 1 (F_pa1 p i op sc each one rest (Int.toNat (IntKind.wrap IntKind.i64 ((↑(List.length (rowsOn op)) : Int) + (↑(List.length (rowsOn sc)) : Int)))) (Int.toNat (IntKind.wrap IntKind.i64 ((↑(List.length (rowsOn op)) : Int) + (↑(List.length (rowsOn sc)) : Int)))) (List.replicate (Int.toNat (IntKind.wrap IntKind.i64 ((↑(List.length (rowsOn op)) : Int) + (↑(List.length (rowsOn sc)) : Int)))) [D.int IntKind.i64 (0 : Int)]) (List.replicate (Int.toNat (IntKind.wrap IntKind.i64 ((↑(List.length (rowsOn op)) : Int) + (↑(List.length (rowsOn sc)) : Int)))) [D.int IntKind.i64 (0 : Int)])))))) := by kernel_rfl
set_option maxRecDepth 100000 in
theorem t_pa1 (p : Prg) (i : Int) (op sc : List Int) (each one rest : Int) (na nb : Nat) (X Y : List (List D)) : a_pAt.round s_pAt 400 1 (F_pa1 p i op sc each one rest na nb X Y) =
(VC.need (each ≠ (0 : Int))
(VC.need (PreOk c_bkI (op, ()) [A.c (D.sl (rowsOn op))])
(VC.need (okBack none (rowsOn (listOf Int (rowsOn op))) = true)
(FnA.bki a_pAt 0 (St.slots (F_c1 p i op sc each one rest na nb (IntKind.wrap IntKind.i64 (Int.tdiv i each)))) ((none, [Kd.int IntKind.i64])) (St.blk (B_fa p na X Y (IntKind.wrap IntKind.i64 (Int.tdiv i each)))) (rowsOn (listOf Int (rowsOn op))) (List.length (rowsOn (listOf Int (rowsOn op)))) (F_fa p op (rowsOn (listOf Int (rowsOn op))) (IntKind.wrap IntKind.i64 (Int.tdiv i each)) na X Y (IntKind.wrap IntKind.i64 (Int.tdiv i each))))))) := by kernel_rfl
set_option maxRecDepth 100000 in
theorem t_pa2 (p : Prg) (i : Int) (op sc : List Int) (each one rest : Int) (na nb : Nat) (X Y : List (List D)) : a_pAt.round s_pAt 400 2 (F_pa1 p i op sc each one rest na nb X Y) =
(VC.need (each ≠ (0 : Int))
(VC.need (PreOk c_bkI (op, ()) [A.c (D.sl (rowsOn op))])
(VC.need (okBack none (rowsOn (listOf Int (rowsOn op))) = true)
(FnA.bki a_pAt 1 (St.slots (F_c2 p i op sc each one rest na nb (IntKind.wrap IntKind.i64 (Int.tdiv i each)))) ((none, [Kd.int IntKind.i64])) (St.blk (B_fb p nb X Y (IntKind.wrap IntKind.i64 (Int.tdiv i each)))) (rowsOn (listOf Int (rowsOn op))) (List.length (rowsOn (listOf Int (rowsOn op)))) (F_fb p op (rowsOn (listOf Int (rowsOn op))) (IntKind.wrap IntKind.i64 (Int.tdiv i each)) nb X Y (IntKind.wrap IntKind.i64 (Int.tdiv i each))))))) := by kernel_rfl
set_option maxRecDepth 100000 in
theorem t_pa3 (p : Prg) (sc : List Int) (one rest : Int) (na nb : Nat) (X Y : List (List D)) : a_pAt.round s_pAt 400 3 (F_pa2 p sc one rest na nb X Y) =
(VC.need (PreOk c_bkI (sc, ()) [A.c (D.sl (rowsOn sc))])
(VC.need (okBack none (rowsOn (listOf Int (rowsOn sc))) = true)
(FnA.bki a_pAt 2 (St.slots (F_c3 p sc one rest na nb)) ((none, [Kd.int IntKind.i64])) (St.blk (B_fa p na X Y one)) (rowsOn (listOf Int (rowsOn sc))) (List.length (rowsOn (listOf Int (rowsOn sc)))) (F_fa p sc (rowsOn (listOf Int (rowsOn sc))) one na X Y one)))) := by kernel_rfl
set_option maxRecDepth 100000 in
theorem t_pa4 (p : Prg) (sc : List Int) (one rest : Int) (na nb : Nat) (X Y : List (List D)) : a_pAt.round s_pAt 400 4 (F_pa2 p sc one rest na nb X Y) =
(VC.need (PreOk c_bkI (sc, ()) [A.c (D.sl (rowsOn sc))])
(VC.need (okBack none (rowsOn (listOf Int (rowsOn sc))) = true)
(FnA.bki a_pAt 3 (St.slots (F_c4 p sc one rest na nb (IntKind.wrap IntKind.i64 (one + (1 : Int))) (IntKind.wrap IntKind.i64 (IntKind.wrap IntKind.i64 (one + (1 : Int)) + rest)))) ((none, [Kd.int IntKind.i64])) (St.blk (B_fb p nb X Y (IntKind.wrap IntKind.i64 (IntKind.wrap IntKind.i64 (one + (1 : Int)) + rest)))) (rowsOn (listOf Int (rowsOn sc))) (List.length (rowsOn (listOf Int (rowsOn sc)))) (F_fb p sc (rowsOn (listOf Int (rowsOn sc))) (IntKind.wrap IntKind.i64 (IntKind.wrap IntKind.i64 (one + (1 : Int)) + rest)) nb X Y (IntKind.wrap IntKind.i64 (IntKind.wrap IntKind.i64 (one + (1 : Int)) + rest)))))) := by kernel_rfl
set_option maxRecDepth 100000 in
theorem t_pa5 (p : Prg) (na nb : Nat) (X Y : List (List D)) : a_pAt.round s_pAt 400 5 (F_pa3 p na nb X Y) =
(VC.need (PreOk c_aStart (Prg.of (Prg.cells p), listOf Int X) [A.agg (Prg.cells p), A.c (D.sl X)])
(VC.all (v_aStart (Prg.of (Prg.cells p), listOf Int X)) fun (y5 : Sta × Bool) =>
(VC.need (PreOk c_aStart (Prg.of (Prg.cells p), listOf Int Y) [A.agg (Prg.cells p), A.c (D.sl Y)])
(VC.all (v_aStart (Prg.of (Prg.cells p), listOf Int Y)) fun (y6 : Sta × Bool) =>
(VC.br (y5.snd)
 (VC.ret (some (RR.tup [Sum.inr [Rc.d (D.int IntKind.i64 y5.fst.r0), Rc.d (D.int IntKind.i64 y5.fst.r1), Rc.d (D.int IntKind.i64 y5.fst.r2), Rc.d (D.int IntKind.i64 y5.fst.r3), Rc.new (1 : Nat) (rowsOn y5.fst.mem), Rc.new (1 : Nat) (rowsOn y5.fst.stack), Rc.d (D.int IntKind.i64 y5.fst.pc)], Sum.inr [Rc.d (D.int IntKind.i64 y6.fst.r0), Rc.d (D.int IntKind.i64 y6.fst.r1), Rc.d (D.int IntKind.i64 y6.fst.r2), Rc.d (D.int IntKind.i64 y6.fst.r3), Rc.new (1 : Nat) (rowsOn y6.fst.mem), Rc.new (1 : Nat) (rowsOn y6.fst.stack), Rc.d (D.int IntKind.i64 y6.fst.pc)], Sum.inl (Rc.d (D.bool y6.snd))])))
 (VC.ret (some (RR.tup [Sum.inr [Rc.d (D.int IntKind.i64 y5.fst.r0), Rc.d (D.int IntKind.i64 y5.fst.r1), Rc.d (D.int IntKind.i64 y5.fst.r2), Rc.d (D.int IntKind.i64 y5.fst.r3), Rc.new (1 : Nat) (rowsOn y5.fst.mem), Rc.new (1 : Nat) (rowsOn y5.fst.stack), Rc.d (D.int IntKind.i64 y5.fst.pc)], Sum.inr [Rc.d (D.int IntKind.i64 y6.fst.r0), Rc.d (D.int IntKind.i64 y6.fst.r1), Rc.d (D.int IntKind.i64 y6.fst.r2), Rc.d (D.int IntKind.i64 y6.fst.r3), Rc.new (1 : Nat) (rowsOn y6.fst.mem), Rc.new (1 : Nat) (rowsOn y6.fst.stack), Rc.d (D.int IntKind.i64 y6.fst.pc)], Sum.inl (Rc.d (D.bool false))])))))))) := by kernel_rfl
set_option maxRecDepth 100000 in
theorem t_pf10 (p : Prg) (i : Int) (op sc : List Int) (each one rest : Int) (na nb : Nat) (X0 Y0 Z : List (List D)) (m0 n0 : Int) (X Y : List (List D)) (n : Int) : a_pAt.bkiround s_pAt 400 0 (St.slots (F_c1 p i op sc each one rest na nb m0)) (none, [Kd.int .i64]) (St.blk (B_fa p na X0 Y0 m0)) (rowsOn op) 0 (F_fa p op Z n0 na X Y n) =
(FnA.at_ a_pAt 2 (F_pa1 p i op sc each one rest na nb X Y)) := by kernel_rfl
set_option maxRecDepth 100000 in
theorem t_pf1S (p : Prg) (i : Int) (op sc : List Int) (each one rest : Int) (na nb : Nat) (X0 Y0 Z : List (List D)) (m0 n0 : Int) (X Y : List (List D)) (n : Int) (k : Nat) : a_pAt.bkiround s_pAt 400 0 (St.slots (F_c1 p i op sc each one rest na nb m0)) (none, [Kd.int .i64]) (St.blk (B_fa p na X0 Y0 m0)) (rowsOn op) (Nat.succ k) (F_fa p op Z n0 na X Y n) =
(VC.need (k < List.length (rowsOn op) ∧ okSh [Kd.int IntKind.i64] (rowAt (rowsOn op) k))
(VC.need (PreOk c_wSize p.w [A.c (D.int IntKind.i64 p.w)])
(VC.need (max (sizeS p.w) (1 : Int) ≠ (0 : Int))
(VC.need ((0 : Int) ≤ asInt (List.getD (rowAt (rowsOn op) k) (0 : Nat) D.nilp) ∧ asInt (List.getD (rowAt (rowsOn op) k) (0 : Nat) D.nilp) < (↑na : Int))
(VC.need (Int.toNat (asInt (List.getD (rowAt (rowsOn op) k) (0 : Nat) D.nilp)) < List.length X ∧ List.length (rowAt X (Int.toNat (asInt (List.getD (rowAt (rowsOn op) k) (0 : Nat) D.nilp)))) = (1 : Nat) ∧ (1 : Nat) ≤ (1 : Nat))
(VC.need (PreOk c_wSize p.w [A.c (D.int IntKind.i64 p.w)])
(VC.need (max (sizeS p.w) (1 : Int) ≠ (0 : Int))
(FnA.bki a_pAt 0 (St.slots (F_c1 p i op sc each one rest na nb m0)) ((none, [Kd.int IntKind.i64])) (St.blk (B_fa p na X0 Y0 m0)) (rowsOn op) (k) (F_fa p op Z n0 na (List.set X (Int.toNat (asInt (List.getD (rowAt (rowsOn op) k) (0 : Nat) D.nilp))) (splice (rowAt X (Int.toNat (asInt (List.getD (rowAt (rowsOn op) k) (0 : Nat) D.nilp)))) (0 : Nat) [D.int IntKind.i64 (Int.tmod n (max (sizeS p.w) (1 : Int)))])) Y (IntKind.wrap IntKind.i64 (Int.tdiv n (max (sizeS p.w) (1 : Int))))))))))))) := by kernel_rfl
set_option maxRecDepth 100000 in
theorem t_pf20 (p : Prg) (i : Int) (op sc : List Int) (each one rest : Int) (na nb : Nat) (X0 Y0 Z : List (List D)) (m0 n0 : Int) (X Y : List (List D)) (n : Int) : a_pAt.bkiround s_pAt 400 1 (St.slots (F_c2 p i op sc each one rest na nb m0)) (none, [Kd.int .i64]) (St.blk (B_fb p nb X0 Y0 m0)) (rowsOn op) 0 (F_fb p op Z n0 nb X Y n) =
(FnA.at_ a_pAt 3 (F_pa2 p sc one rest na nb X Y)) := by kernel_rfl
set_option maxRecDepth 100000 in
theorem t_pf2S (p : Prg) (i : Int) (op sc : List Int) (each one rest : Int) (na nb : Nat) (X0 Y0 Z : List (List D)) (m0 n0 : Int) (X Y : List (List D)) (n : Int) (k : Nat) : a_pAt.bkiround s_pAt 400 1 (St.slots (F_c2 p i op sc each one rest na nb m0)) (none, [Kd.int .i64]) (St.blk (B_fb p nb X0 Y0 m0)) (rowsOn op) (Nat.succ k) (F_fb p op Z n0 nb X Y n) =
(VC.need (k < List.length (rowsOn op) ∧ okSh [Kd.int IntKind.i64] (rowAt (rowsOn op) k))
(VC.need (PreOk c_wSize p.w [A.c (D.int IntKind.i64 p.w)])
(VC.need (max (sizeS p.w) (1 : Int) ≠ (0 : Int))
(VC.need ((0 : Int) ≤ asInt (List.getD (rowAt (rowsOn op) k) (0 : Nat) D.nilp) ∧ asInt (List.getD (rowAt (rowsOn op) k) (0 : Nat) D.nilp) < (↑nb : Int))
(VC.need (Int.toNat (asInt (List.getD (rowAt (rowsOn op) k) (0 : Nat) D.nilp)) < List.length Y ∧ List.length (rowAt Y (Int.toNat (asInt (List.getD (rowAt (rowsOn op) k) (0 : Nat) D.nilp)))) = (1 : Nat) ∧ (1 : Nat) ≤ (1 : Nat))
(VC.need (PreOk c_wSize p.w [A.c (D.int IntKind.i64 p.w)])
(VC.need (max (sizeS p.w) (1 : Int) ≠ (0 : Int))
(FnA.bki a_pAt 1 (St.slots (F_c2 p i op sc each one rest na nb m0)) ((none, [Kd.int IntKind.i64])) (St.blk (B_fb p nb X0 Y0 m0)) (rowsOn op) (k) (F_fb p op Z n0 nb X (List.set Y (Int.toNat (asInt (List.getD (rowAt (rowsOn op) k) (0 : Nat) D.nilp))) (splice (rowAt Y (Int.toNat (asInt (List.getD (rowAt (rowsOn op) k) (0 : Nat) D.nilp)))) (0 : Nat) [D.int IntKind.i64 (Int.tmod n (max (sizeS p.w) (1 : Int)))])) (IntKind.wrap IntKind.i64 (Int.tdiv n (max (sizeS p.w) (1 : Int))))))))))))) := by kernel_rfl
set_option maxRecDepth 100000 in
theorem t_pf30 (p : Prg) (sc : List Int) (one rest : Int) (na nb : Nat) (X0 Y0 Z : List (List D)) (m0 n0 : Int) (X Y : List (List D)) (n : Int) : a_pAt.bkiround s_pAt 400 2 (St.slots (F_c3 p sc one rest na nb)) (none, [Kd.int .i64]) (St.blk (B_fa p na X0 Y0 m0)) (rowsOn sc) 0 (F_fa p sc Z n0 na X Y n) =
(FnA.at_ a_pAt 4 (F_pa2 p sc one rest na nb X Y)) := by kernel_rfl
set_option maxRecDepth 100000 in
theorem t_pf3S (p : Prg) (sc : List Int) (one rest : Int) (na nb : Nat) (X0 Y0 Z : List (List D)) (m0 n0 : Int) (X Y : List (List D)) (n : Int) (k : Nat) : a_pAt.bkiround s_pAt 400 2 (St.slots (F_c3 p sc one rest na nb)) (none, [Kd.int .i64]) (St.blk (B_fa p na X0 Y0 m0)) (rowsOn sc) (Nat.succ k) (F_fa p sc Z n0 na X Y n) =
(VC.need (k < List.length (rowsOn sc) ∧ okSh [Kd.int IntKind.i64] (rowAt (rowsOn sc) k))
(VC.need (PreOk c_wSize p.w [A.c (D.int IntKind.i64 p.w)])
(VC.need (max (sizeS p.w) (1 : Int) ≠ (0 : Int))
(VC.need ((0 : Int) ≤ asInt (List.getD (rowAt (rowsOn sc) k) (0 : Nat) D.nilp) ∧ asInt (List.getD (rowAt (rowsOn sc) k) (0 : Nat) D.nilp) < (↑na : Int))
(VC.need (Int.toNat (asInt (List.getD (rowAt (rowsOn sc) k) (0 : Nat) D.nilp)) < List.length X ∧ List.length (rowAt X (Int.toNat (asInt (List.getD (rowAt (rowsOn sc) k) (0 : Nat) D.nilp)))) = (1 : Nat) ∧ (1 : Nat) ≤ (1 : Nat))
(VC.need (PreOk c_wSize p.w [A.c (D.int IntKind.i64 p.w)])
(VC.need (max (sizeS p.w) (1 : Int) ≠ (0 : Int))
(FnA.bki a_pAt 2 (St.slots (F_c3 p sc one rest na nb)) ((none, [Kd.int IntKind.i64])) (St.blk (B_fa p na X0 Y0 m0)) (rowsOn sc) (k) (F_fa p sc Z n0 na (List.set X (Int.toNat (asInt (List.getD (rowAt (rowsOn sc) k) (0 : Nat) D.nilp))) (splice (rowAt X (Int.toNat (asInt (List.getD (rowAt (rowsOn sc) k) (0 : Nat) D.nilp)))) (0 : Nat) [D.int IntKind.i64 (Int.tmod n (max (sizeS p.w) (1 : Int)))])) Y (IntKind.wrap IntKind.i64 (Int.tdiv n (max (sizeS p.w) (1 : Int))))))))))))) := by kernel_rfl
set_option maxRecDepth 100000 in
theorem t_pf40 (p : Prg) (sc : List Int) (one rest : Int) (na nb : Nat) (m1 : Int) (X0 Y0 Z : List (List D)) (m0 n0 : Int) (X Y : List (List D)) (n : Int) : a_pAt.bkiround s_pAt 400 3 (St.slots (F_c4 p sc one rest na nb m1 m0)) (none, [Kd.int .i64]) (St.blk (B_fb p nb X0 Y0 m0)) (rowsOn sc) 0 (F_fb p sc Z n0 nb X Y n) =
(FnA.at_ a_pAt 5 (F_pa3 p na nb X Y)) := by kernel_rfl
set_option maxRecDepth 100000 in
theorem t_pf4S (p : Prg) (sc : List Int) (one rest : Int) (na nb : Nat) (m1 : Int) (X0 Y0 Z : List (List D)) (m0 n0 : Int) (X Y : List (List D)) (n : Int) (k : Nat) : a_pAt.bkiround s_pAt 400 3 (St.slots (F_c4 p sc one rest na nb m1 m0)) (none, [Kd.int .i64]) (St.blk (B_fb p nb X0 Y0 m0)) (rowsOn sc) (Nat.succ k) (F_fb p sc Z n0 nb X Y n) =
(VC.need (k < List.length (rowsOn sc) ∧ okSh [Kd.int IntKind.i64] (rowAt (rowsOn sc) k))
(VC.need (PreOk c_wSize p.w [A.c (D.int IntKind.i64 p.w)])
(VC.need (max (sizeS p.w) (1 : Int) ≠ (0 : Int))
(VC.need ((0 : Int) ≤ asInt (List.getD (rowAt (rowsOn sc) k) (0 : Nat) D.nilp) ∧ asInt (List.getD (rowAt (rowsOn sc) k) (0 : Nat) D.nilp) < (↑nb : Int))
(VC.need (Int.toNat (asInt (List.getD (rowAt (rowsOn sc) k) (0 : Nat) D.nilp)) < List.length Y ∧ List.length (rowAt Y (Int.toNat (asInt (List.getD (rowAt (rowsOn sc) k) (0 : Nat) D.nilp)))) = (1 : Nat) ∧ (1 : Nat) ≤ (1 : Nat))
(VC.need (PreOk c_wSize p.w [A.c (D.int IntKind.i64 p.w)])
(VC.need (max (sizeS p.w) (1 : Int) ≠ (0 : Int))
(FnA.bki a_pAt 3 (St.slots (F_c4 p sc one rest na nb m1 m0)) ((none, [Kd.int IntKind.i64])) (St.blk (B_fb p nb X0 Y0 m0)) (rowsOn sc) (k) (F_fb p sc Z n0 nb X (List.set Y (Int.toNat (asInt (List.getD (rowAt (rowsOn sc) k) (0 : Nat) D.nilp))) (splice (rowAt Y (Int.toNat (asInt (List.getD (rowAt (rowsOn sc) k) (0 : Nat) D.nilp)))) (0 : Nat) [D.int IntKind.i64 (Int.tmod n (max (sizeS p.w) (1 : Int)))])) (IntKind.wrap IntKind.i64 (Int.tdiv n (max (sizeS p.w) (1 : Int))))))))))))) := by kernel_rfl
/-! filling -/
theorem l_f1 (p : Prg) (i : Int) (op sc : List Int) (each one rest : Int) (na nb : Nat) (X0 Y0 Z : List (List D)) (m0 n0 : Int) (Y : List (List D)) (hw : okW p.w) (hb : ∀ k : Nat, k < op.length → 0 ≤ rd op (k : Int) ∧ rd op (k : Int) < na) (R : RR → Prop) : ∀ (k : Nat) (l : List Int) (n : Int), k ≤ op.length → l.length = na → 0 ≤ n → n ≤ 1000000000 →
    (FnA.at_ a_pAt 2 (F_pa1 p i op sc each one rest na nb (rowsOn (fillK (sizeS p.w) op k l n)) Y)).holds s_pAt.cx a_pAt.rs R →
    (FnA.bki a_pAt 0 (St.slots (F_c1 p i op sc each one rest na nb m0)) (none, [Kd.int .i64]) (St.blk (B_fa p na X0 Y0 m0)) (rowsOn op) k (F_fa p op Z n0 na (rowsOn l) Y n)).holds s_pAt.cx a_pAt.rs R := by
  intro k
  induction k with
  | zero =>
    intro l n hk hl h0 h1 h
    refine bki_of_round s_pAt_sound (m := 400) ?_
    rw [t_pf10]
    exact h
  | succ k ih =>
    intro l n hk hl h0 h1 h
    refine bki_of_round s_pAt_sound (m := 400) ?_
    rw [show k + 1 = Nat.succ k from rfl, t_pf1S]
    have hs := size_pos hw
    have e1 : asInt (List.getD (rowAt (rowsOn op) k) 0 .nilp) = rd op (k : Int) := rd_int op (k : Int)
    have hbk := hb k (by omega)
    have em : max (sizeS p.w) 1 = sizeS p.w := by omega
    have t1 : Int.tmod n (sizeS p.w) = n % sizeS p.w := Int.tmod_eq_emod_of_nonneg h0
    have t2 : Int.tdiv n (sizeS p.w) = n / sizeS p.w := Int.tdiv_eq_ediv_of_nonneg h0
    have d1 : 0 ≤ n / sizeS p.w := Int.ediv_nonneg h0 (by omega)
    have d2 : n / sizeS p.w ≤ n := Int.ediv_le_self _ h0
    have hset : List.set (rowsOn l) (rd op (k : Int)).toNat (splice (rowAt (rowsOn l) (rd op (k : Int)).toNat) 0 [D.int .i64 (n % sizeS p.w)]) = rowsOn (l.set (rd op (k : Int)).toNat (n % sizeS p.w)) := (OnL.set (α := Int) (n := l.length) ⟨rfl, rfl⟩ hbk.1 (by omega) (n % sizeS p.w)).1
    rw [e1, em, t1, t2, wrap_small (n / sizeS p.w) (by omega) (by omega), hset]
    have hr : (rowAt (rowsOn l) (rd op (k : Int)).toNat).length = 1 := by rw [rowAt_on l _ hbk.1 (by omega)]; rfl
    exact ⟨⟨by rw [rowsOn_length]; omega, okSh_ok _ op (k : Int) (fun _ => rfl) (by omega) (by omega)⟩, PreOk.mk trivial rfl, by omega, ⟨hbk.1, hbk.2⟩, ⟨by rw [rowsOn_length]; omega, hr, Nat.le_refl _⟩, PreOk.mk trivial rfl, by omega, ih _ _ (by omega) (by simpa using hl) d1 (by omega) h⟩
theorem l_f2 (p : Prg) (i : Int) (op sc : List Int) (each one rest : Int) (na nb : Nat) (X0 Y0 Z : List (List D)) (m0 n0 : Int) (X : List (List D)) (hw : okW p.w) (hb : ∀ k : Nat, k < op.length → 0 ≤ rd op (k : Int) ∧ rd op (k : Int) < nb) (R : RR → Prop) : ∀ (k : Nat) (l : List Int) (n : Int), k ≤ op.length → l.length = nb → 0 ≤ n → n ≤ 1000000000 →
    (FnA.at_ a_pAt 3 (F_pa2 p sc one rest na nb X (rowsOn (fillK (sizeS p.w) op k l n)))).holds s_pAt.cx a_pAt.rs R →
    (FnA.bki a_pAt 1 (St.slots (F_c2 p i op sc each one rest na nb m0)) (none, [Kd.int .i64]) (St.blk (B_fb p nb X0 Y0 m0)) (rowsOn op) k (F_fb p op Z n0 nb X (rowsOn l) n)).holds s_pAt.cx a_pAt.rs R := by
  intro k
  induction k with
  | zero =>
    intro l n hk hl h0 h1 h
    refine bki_of_round s_pAt_sound (m := 400) ?_
    rw [t_pf20]
    exact h
  | succ k ih =>
    intro l n hk hl h0 h1 h
    refine bki_of_round s_pAt_sound (m := 400) ?_
    rw [show k + 1 = Nat.succ k from rfl, t_pf2S]
    have hs := size_pos hw
    have e1 : asInt (List.getD (rowAt (rowsOn op) k) 0 .nilp) = rd op (k : Int) := rd_int op (k : Int)
    have hbk := hb k (by omega)
    have em : max (sizeS p.w) 1 = sizeS p.w := by omega
    have t1 : Int.tmod n (sizeS p.w) = n % sizeS p.w := Int.tmod_eq_emod_of_nonneg h0
    have t2 : Int.tdiv n (sizeS p.w) = n / sizeS p.w := Int.tdiv_eq_ediv_of_nonneg h0
    have d1 : 0 ≤ n / sizeS p.w := Int.ediv_nonneg h0 (by omega)
    have d2 : n / sizeS p.w ≤ n := Int.ediv_le_self _ h0
    have hset : List.set (rowsOn l) (rd op (k : Int)).toNat (splice (rowAt (rowsOn l) (rd op (k : Int)).toNat) 0 [D.int .i64 (n % sizeS p.w)]) = rowsOn (l.set (rd op (k : Int)).toNat (n % sizeS p.w)) := (OnL.set (α := Int) (n := l.length) ⟨rfl, rfl⟩ hbk.1 (by omega) (n % sizeS p.w)).1
    rw [e1, em, t1, t2, wrap_small (n / sizeS p.w) (by omega) (by omega), hset]
    have hr : (rowAt (rowsOn l) (rd op (k : Int)).toNat).length = 1 := by rw [rowAt_on l _ hbk.1 (by omega)]; rfl
    exact ⟨⟨by rw [rowsOn_length]; omega, okSh_ok _ op (k : Int) (fun _ => rfl) (by omega) (by omega)⟩, PreOk.mk trivial rfl, by omega, ⟨hbk.1, hbk.2⟩, ⟨by rw [rowsOn_length]; omega, hr, Nat.le_refl _⟩, PreOk.mk trivial rfl, by omega, ih _ _ (by omega) (by simpa using hl) d1 (by omega) h⟩
theorem l_f3 (p : Prg) (sc : List Int) (one rest : Int) (na nb : Nat) (X0 Y0 Z : List (List D)) (m0 n0 : Int) (Y : List (List D)) (hw : okW p.w) (hb : ∀ k : Nat, k < sc.length → 0 ≤ rd sc (k : Int) ∧ rd sc (k : Int) < na) (R : RR → Prop) : ∀ (k : Nat) (l : List Int) (n : Int), k ≤ sc.length → l.length = na → 0 ≤ n → n ≤ 1000000000 →
    (FnA.at_ a_pAt 4 (F_pa2 p sc one rest na nb (rowsOn (fillK (sizeS p.w) sc k l n)) Y)).holds s_pAt.cx a_pAt.rs R →
    (FnA.bki a_pAt 2 (St.slots (F_c3 p sc one rest na nb)) (none, [Kd.int .i64]) (St.blk (B_fa p na X0 Y0 m0)) (rowsOn sc) k (F_fa p sc Z n0 na (rowsOn l) Y n)).holds s_pAt.cx a_pAt.rs R := by
  intro k
  induction k with
  | zero =>
    intro l n hk hl h0 h1 h
    refine bki_of_round s_pAt_sound (m := 400) ?_
    rw [t_pf30]
    exact h
  | succ k ih =>
    intro l n hk hl h0 h1 h
    refine bki_of_round s_pAt_sound (m := 400) ?_
    rw [show k + 1 = Nat.succ k from rfl, t_pf3S]
    have hs := size_pos hw
    have e1 : asInt (List.getD (rowAt (rowsOn sc) k) 0 .nilp) = rd sc (k : Int) := rd_int sc (k : Int)
    have hbk := hb k (by omega)
    have em : max (sizeS p.w) 1 = sizeS p.w := by omega
    have t1 : Int.tmod n (sizeS p.w) = n % sizeS p.w := Int.tmod_eq_emod_of_nonneg h0
    have t2 : Int.tdiv n (sizeS p.w) = n / sizeS p.w := Int.tdiv_eq_ediv_of_nonneg h0
    have d1 : 0 ≤ n / sizeS p.w := Int.ediv_nonneg h0 (by omega)
    have d2 : n / sizeS p.w ≤ n := Int.ediv_le_self _ h0
    have hset : List.set (rowsOn l) (rd sc (k : Int)).toNat (splice (rowAt (rowsOn l) (rd sc (k : Int)).toNat) 0 [D.int .i64 (n % sizeS p.w)]) = rowsOn (l.set (rd sc (k : Int)).toNat (n % sizeS p.w)) := (OnL.set (α := Int) (n := l.length) ⟨rfl, rfl⟩ hbk.1 (by omega) (n % sizeS p.w)).1
    rw [e1, em, t1, t2, wrap_small (n / sizeS p.w) (by omega) (by omega), hset]
    have hr : (rowAt (rowsOn l) (rd sc (k : Int)).toNat).length = 1 := by rw [rowAt_on l _ hbk.1 (by omega)]; rfl
    exact ⟨⟨by rw [rowsOn_length]; omega, okSh_ok _ sc (k : Int) (fun _ => rfl) (by omega) (by omega)⟩, PreOk.mk trivial rfl, by omega, ⟨hbk.1, hbk.2⟩, ⟨by rw [rowsOn_length]; omega, hr, Nat.le_refl _⟩, PreOk.mk trivial rfl, by omega, ih _ _ (by omega) (by simpa using hl) d1 (by omega) h⟩
theorem l_f4 (p : Prg) (sc : List Int) (one rest : Int) (na nb : Nat) (m1 : Int) (X0 Y0 Z : List (List D)) (m0 n0 : Int) (X : List (List D)) (hw : okW p.w) (hb : ∀ k : Nat, k < sc.length → 0 ≤ rd sc (k : Int) ∧ rd sc (k : Int) < nb) (R : RR → Prop) : ∀ (k : Nat) (l : List Int) (n : Int), k ≤ sc.length → l.length = nb → 0 ≤ n → n ≤ 1000000000 →
    (FnA.at_ a_pAt 5 (F_pa3 p na nb X (rowsOn (fillK (sizeS p.w) sc k l n)))).holds s_pAt.cx a_pAt.rs R →
    (FnA.bki a_pAt 3 (St.slots (F_c4 p sc one rest na nb m1 m0)) (none, [Kd.int .i64]) (St.blk (B_fb p nb X0 Y0 m0)) (rowsOn sc) k (F_fb p sc Z n0 nb X (rowsOn l) n)).holds s_pAt.cx a_pAt.rs R := by
  intro k
  induction k with
  | zero =>
    intro l n hk hl h0 h1 h
    refine bki_of_round s_pAt_sound (m := 400) ?_
    rw [t_pf40]
    exact h
  | succ k ih =>
    intro l n hk hl h0 h1 h
    refine bki_of_round s_pAt_sound (m := 400) ?_
    rw [show k + 1 = Nat.succ k from rfl, t_pf4S]
    have hs := size_pos hw
    have e1 : asInt (List.getD (rowAt (rowsOn sc) k) 0 .nilp) = rd sc (k : Int) := rd_int sc (k : Int)
    have hbk := hb k (by omega)
    have em : max (sizeS p.w) 1 = sizeS p.w := by omega
    have t1 : Int.tmod n (sizeS p.w) = n % sizeS p.w := Int.tmod_eq_emod_of_nonneg h0
    have t2 : Int.tdiv n (sizeS p.w) = n / sizeS p.w := Int.tdiv_eq_ediv_of_nonneg h0
    have d1 : 0 ≤ n / sizeS p.w := Int.ediv_nonneg h0 (by omega)
    have d2 : n / sizeS p.w ≤ n := Int.ediv_le_self _ h0
    have hset : List.set (rowsOn l) (rd sc (k : Int)).toNat (splice (rowAt (rowsOn l) (rd sc (k : Int)).toNat) 0 [D.int .i64 (n % sizeS p.w)]) = rowsOn (l.set (rd sc (k : Int)).toNat (n % sizeS p.w)) := (OnL.set (α := Int) (n := l.length) ⟨rfl, rfl⟩ hbk.1 (by omega) (n % sizeS p.w)).1
    rw [e1, em, t1, t2, wrap_small (n / sizeS p.w) (by omega) (by omega), hset]
    have hr : (rowAt (rowsOn l) (rd sc (k : Int)).toNat).length = 1 := by rw [rowAt_on l _ hbk.1 (by omega)]; rfl
    exact ⟨⟨by rw [rowsOn_length]; omega, okSh_ok _ sc (k : Int) (fun _ => rfl) (by omega) (by omega)⟩, PreOk.mk trivial rfl, by omega, ⟨hbk.1, hbk.2⟩, ⟨by rw [rowsOn_length]; omega, hr, Nat.le_refl _⟩, PreOk.mk trivial rfl, by omega, ih _ _ (by omega) (by simpa using hl) d1 (by omega) h⟩
theorem idx_in {p : Prg} {b : Bool} {na : Nat} (h : na = (placesS p).length) : ∀ k : Nat, k < (idxW b (placesS p) 0).length → 0 ≤ rd (idxW b (placesS p) 0) (k : Int) ∧ rd (idxW b (placesS p) 0) (k : Int) < na := fun k hk => by
  obtain ⟨j, hj, e, _⟩ := idxW_rd b (placesS p) hk
  omega
theorem back_ok (l : List Int) (h : l.length ≤ 2000) : okBack none (rowsOn l) = true := by
  unfold okBack
  rw [Bool.and_eq_true]
  exact ⟨rowsOn_all l 1 rfl, decide_eq_true (by rw [rowsOn_length]; omega)⟩
theorem rep_on (n : Nat) : List.replicate n [D.int IntKind.i64 0] = rowsOn (List.replicate n (0 : Int)) := (OnL.rep n (0 : Int)).1
theorem l_pa1 (p : Prg) (hw : okW p.w) (hm : Mems p.mems) (i each one rest : Int) (h0 : 0 ≤ i) (h1 : i < 1000000) (he : 0 < each) (ho : 0 ≤ one) (hr : 0 ≤ rest) (ho1 : one ≤ 1000000) (hr1 : rest ≤ 1000000) (na : Nat) (hna : na = (placesS p).length) :
    (FnA.at_ a_pAt 1 (F_pa1 p i (openS p) (secS p) each one rest na na (rowsOn (List.replicate na (0 : Int))) (rowsOn (List.replicate na (0 : Int))))).holds s_pAt.cx a_pAt.rs fun r => r.le (rpair ((startS p (rowP p (i / each) one)).1, (startS p (rowP p (i / each) (one + 1 + rest))).1, true)) := by
  obtain ⟨l1, l2, l3⟩ := split_len hm
  have hd0 : 0 ≤ i / each := Int.ediv_nonneg h0 (by omega)
  have hd1 : i / each ≤ i := Int.ediv_le_self _ h0
  have t1 : Int.tdiv i each = i / each := Int.tdiv_eq_ediv_of_nonneg h0
  have hrow : ∀ o, fillK (sizeS p.w) (secS p) (secS p).length (fillK (sizeS p.w) (openS p) (openS p).length (List.replicate na 0) (i / each)) o = rowP p (i / each) o := fun o => by
    rw [hna, ← l3]; rfl
  have rows : ∀ o, ∃ s, startS p (rowP p (i / each) o) = (s, true) := fun o => by
    obtain ⟨s, hs, _⟩ := start_hold p hm (rowP p (i / each) o) (rowP_len p _ _)
    exact ⟨s, hs⟩
  refine at_of_round s_pAt_sound (m := 400) ?_
  rw [t_pa1]
  simp only [listOf_rowsOn, t1, wrap_small (i / each) (show -9223372036854775808 ≤ i / each by omega) (show i / each ≤ 9223372036854775807 by omega)]
  refine ⟨by omega, PreOk.mk trivial rfl, back_ok _ l1, ?_⟩
  rw [rowsOn_length]
  refine l_f1 p i _ _ _ _ _ _ _ _ _ _ _ _ _ hw (idx_in hna) _ _ _ _ (Nat.le_refl _) (by simp) hd0 (by omega) ?_
  refine at_of_round s_pAt_sound (m := 400) ?_
  rw [t_pa2]
  simp only [listOf_rowsOn, t1, wrap_small (i / each) (show -9223372036854775808 ≤ i / each by omega) (show i / each ≤ 9223372036854775807 by omega)]
  refine ⟨by omega, PreOk.mk trivial rfl, back_ok _ l1, ?_⟩
  rw [rowsOn_length]
  refine l_f2 p i _ _ _ _ _ _ _ _ _ _ _ _ _ hw (idx_in hna) _ _ _ _ (Nat.le_refl _) (by simp) hd0 (by omega) ?_
  refine at_of_round s_pAt_sound (m := 400) ?_
  rw [t_pa3]
  simp only [listOf_rowsOn]
  refine ⟨PreOk.mk trivial rfl, back_ok _ l2, ?_⟩
  rw [rowsOn_length]
  refine l_f3 p _ _ _ _ _ _ _ _ _ _ _ hw (idx_in hna) _ _ _ _ (Nat.le_refl _) (by rw [fillK_len]; simp) ho (by omega) ?_
  refine at_of_round s_pAt_sound (m := 400) ?_
  rw [t_pa4]
  simp only [listOf_rowsOn, wrap_small (one + 1) (show -9223372036854775808 ≤ one + 1 by omega) (show one + 1 ≤ 9223372036854775807 by omega), wrap_small (one + 1 + rest) (show -9223372036854775808 ≤ one + 1 + rest by omega) (show one + 1 + rest ≤ 9223372036854775807 by omega)]
  refine ⟨PreOk.mk trivial rfl, back_ok _ l2, ?_⟩
  rw [rowsOn_length]
  refine l_f4 p _ _ _ _ _ _ _ _ _ _ _ _ hw (idx_in hna) _ _ _ _ (Nat.le_refl _) (by rw [fillK_len]; simp) (by omega) (by omega) ?_
  refine at_of_round s_pAt_sound (m := 400) ?_
  rw [t_pa5]
  simp only [listOf_rowsOn, Prg.of_cells, hrow]
  obtain ⟨s1, e1⟩ := rows one
  obtain ⟨s2, e2⟩ := rows (one + 1 + rest)
  refine ⟨PreOk.mk hm rfl, all_holds fun y hy => ⟨PreOk.mk hm rfl, all_holds fun z hz => ?_⟩⟩
  replace hy : y = (s1, true) := by rw [hy, ← e1, ← hrow]; rfl
  replace hz : z = (s2, true) := by rw [hz, ← e2, ← hrow]; rfl
  subst hy hz
  rw [e1, e2]
  exact br_holds (fun _ => ret_le (RR.le_refl _)) (fun h => by cases h)
theorem l_pa00 (p : Prg) (hw : okW p.w) (hm : Mems p.mems) (i all each : Int) (h0 : 0 ≤ i) (h1 : i < 1000000) (he : 0 < each) (ha : 0 < all) (ha1 : all ≤ farS) : ∀ (m : Nat) (one rest : Int), 0 ≤ rest → rest ≤ 1000000 → 0 ≤ one → one < all → one + rest ≤ 1000000 → 2 * rest < (all - one) * (all - one - 1) → rest ≤ m →
    (FnA.at_ a_pAt 0 (F_pa0 p i (openS p) (secS p) all each one rest)).holds s_pAt.cx a_pAt.rs fun r => r.le (rpair ((startS p (rowP p (i / each) (oneF all m one rest).1)).1, (startS p (rowP p (i / each) ((oneF all m one rest).1 + 1 + (oneF all m one rest).2))).1, true)) := by
  intro m
  obtain ⟨l1, l2, l3⟩ := split_len hm
  dsimp only [farS] at ha1
  have hl : ((openS p).length : Int) + ((secS p).length : Int) = ((placesS p).length : Int) := by omega
  have fin : ∀ one rest : Int, 0 ≤ rest → rest ≤ 1000000 → 0 ≤ one → one ≤ 1000000 → rest < all - 1 - one → one < all →
      (FnA.at_ a_pAt 0 (F_pa0 p i (openS p) (secS p) all each one rest)).holds s_pAt.cx a_pAt.rs fun r => r.le (rpair ((startS p (rowP p (i / each) one)).1, (startS p (rowP p (i / each) (one + 1 + rest))).1, true)) := by
    intro one rest r0 r1 o0 o1 hlt ho
    refine at_of_round s_pAt_sound (m := 400) ?_
    rw [t_pa0]
    have w1 : IntKind.wrap .i64 (all - 1) = all - 1 := wrap_small _ (by omega) (by omega)
    have w2 : IntKind.wrap .i64 (all - 1 - one) = all - 1 - one := wrap_small _ (by omega) (by omega)
    have w3 : IntKind.wrap .i64 ((placesS p).length : Int) = ((placesS p).length : Int) := wrap_small _ (by omega) (by omega)
    simp only [w1, w2, rowsOn_length, hl, w3, Int.toNat_natCast]
    refine br_dec (fun h => by omega) (fun h => ⟨⟨trivial, by omega, by omega⟩, ⟨trivial, by omega, by omega⟩, ?_⟩)
    rw [rep_on]
    exact l_pa1 p hw hm i each one rest h0 h1 he o0 r0 o1 r1 _ rfl
  induction m with
  | zero =>
    intro one rest r0 r1 o0 o1 hs h2 hm0
    have hx : all - one - 1 ≠ 0 := fun e => by rw [e, Int.mul_zero] at h2; omega
    exact fin one rest r0 r1 o0 (by omega) (by omega) o1
  | succ m ih =>
    intro one rest r0 r1 o0 o1 hs h2 hm0
    have hx : all - one - 1 ≠ 0 := fun e => by rw [e, Int.mul_zero] at h2; omega
    unfold oneF
    by_cases h : all - 1 - one ≤ rest
    · rw [if_pos h]
      refine at_of_round s_pAt_sound (m := 400) ?_
      rw [t_pa0]
      have ht := tri (all - one)
      have e1 : all - (one + 1) = all - one - 1 := by omega
      have w1 : IntKind.wrap .i64 (all - 1) = all - 1 := wrap_small _ (by omega) (by omega)
      have w2 : IntKind.wrap .i64 (all - 1 - one) = all - 1 - one := wrap_small _ (by omega) (by omega)
      have w3 : IntKind.wrap .i64 (one + 1) = one + 1 := wrap_small _ (by omega) (by omega)
      have w4 : IntKind.wrap .i64 (rest - (all - 1 - one)) = rest - (all - 1 - one) := wrap_small _ (by omega) (by omega)
      rw [w1, w2, w3, w4]
      refine br_dec (fun _ => ?_) (fun q => absurd h q)
      exact ih (one + 1) (rest - (all - 1 - one)) (by omega) (by omega) (by omega) (by omega) (by omega) (by rw [e1]; omega) (by omega)
    · rw [if_neg h]
      exact fin one rest r0 r1 o0 (by omega) (by omega) o1
theorem zero_le2 : (RR.tup [.inr [.d (.int .i64 0), .d (.int .i64 0), .d (.int .i64 0), .d (.int .i64 0), .nil, .nil, .d (.int .i64 0)], .inr [.d (.int .i64 0), .d (.int .i64 0), .d (.int .i64 0), .d (.int .i64 0), .nil, .nil, .d (.int .i64 0)], .inl (.d (.bool false))]).le (rpair (zeroSta 0, zeroSta 0, false)) := by
  simp [rpair, zeroSta, Sta.fresh, RR.le, Rc.le1s, Rc.le1, Rc.les, rowsOn]
theorem c_pAt_good : c_pAt.fe.Good Try.prog := by
  refine FT.good c_pAt ⟨Try.f45, by kernel_rfl, by decide +kernel, by kernel_rfl⟩ (fun ⟨p, i⟩ => by first | rfl | simp [c_pAt, rrRef, rsplit, rnewI, rnewE, rstab, rplaces, ri, rb, rib, rnum, rby, rss, rpair, Sta.fresh]) fun ⟨p, i⟩ hp => ?_
  refine acalls_leZ Z_fill_ok s_pAt_sound (fn := Try.f45) (a := a_pAt) (nargs := 2) (tbl := [(7, [1, 2, 4, 5, 7, 8, 9, 10, 11, 12]), (1000000018, [1, 2, 4, 5, 7, 8, 10, 11, 12, 13, 14, 1000013000000900001001, 1000014000000900002001]), (1000000019, [1, 2, 4, 5, 7, 8, 10, 11, 12, 13, 14, 1000013000000900001001, 1000014000000900002001]), (1000000020, [2, 4, 5, 8, 11, 12, 13, 14, 1000013000000900001001, 1000014000000900002001]), (1000000021, [2, 4, 5, 8, 11, 12, 13, 14, 1000013000000900001001, 1000014000000900002001]), (1000000022, [2, 4, 5, 13, 14, 1000013000000900001001, 1000014000000900002001])]) (by kernel_rfl) (by kernel_rfl) rfl (m := 400) ?_
  show VC.holds _ _ _ (a_pAt.start s_pAt 400 [ap p, ai i])
  rw [t_pAt]
  try simp only [asRows_sl, asInt_int, asBool_bool, asStr_str, listOf_rowsOn, List.drop_zero, Prg.eta, Sta.eta, rowsOn_length, getD_drop, Nat.reduceAdd, rd_int, rd_PMem_name, rd_PMem_secret, rd_PMem_n, rd_PLabel_name, rd_PLabel_at_, rd_Ins_kind, rd_Ins_op, rd_Ins_d, rd_Ins_aR, rd_Ins_aN, rd_Ins_bR, rd_Ins_bN, rd_Ins_name, rd_Ins_target, rd_Ent_pc, rd_Ent_val, rd_Ent_addr, rd_Ent_fro, rd_Ent_next, rd_Ent_done, rd_Ent_known, rd_Ent_fault, rd_Place_reg, rd_Place_n, rd_Place_secret, rd_Obs_kind, rd_Obs_at_, rd_Dir_kind, rd_Dir_n, Prg.of_cells, Sta.of_cells]
  try simp only [c_pAt] at hp
  obtain ⟨hw, hm⟩ := hp
  obtain ⟨l1, l2, l3⟩ := split_len hm
  have e : c_pAt.ans (p, i) = rpair (atP p i) := rfl
  rw [e]
  refine ⟨PreOk.mk hm rfl, all_holds fun y hy => ?_⟩
  replace hy : y = (openS p, secS p) := hy
  subst hy
  simp only [Prg.of_cells, rowsOn_length]
  obtain ⟨a1, a2, a3⟩ := powS_pos hw (openS p).length
  obtain ⟨b1, b2, b3⟩ := powS_pos hw (secS p).length
  obtain ⟨c1, c2, c3⟩ := twoS_pos b1
  unfold atP
  refine ⟨PreOk.mk ⟨hw, by dsimp only; omega, by dsimp only; omega⟩ rfl, all_holds fun A hA => ?_⟩
  replace hA : A = powS p (secS p).length := by rw [hA]; simp [v_power]
  rw [← hA] at b1 b2 b3 c1 c2 c3 ⊢
  refine ⟨PreOk.mk ⟨by dsimp only; omega, by dsimp only; omega⟩ rfl, all_holds fun E hE => ?_⟩
  replace hE : E = twoS A := hE
  rw [← hE] at c1 c2 c3 ⊢
  clear hE
  refine br_dec (fun h => ?_) (fun h0 => ?_)
  · rw [if_pos (.inl h)]; exact ret_le zero_le2
  refine br_dec (fun h => ?_) (fun h1 => ?_)
  · rw [if_pos (.inr (.inl h))]; exact ret_le zero_le2
  refine br_beq (fun h => ?_) (fun h2 => ?_)
  · rw [if_pos (.inr (.inr (.inl h)))]; exact ret_le zero_le2
  have t1 : Int.tdiv i E = i / E := Int.tdiv_eq_ediv_of_nonneg (by omega)
  have t2 : Int.tmod i E = i % E := Int.tmod_eq_emod_of_nonneg (by omega)
  have d0 : 0 ≤ i / E := Int.ediv_nonneg (by omega) c1
  have d1 : i / E ≤ i := Int.ediv_le_self _ (by omega)
  have m0 := Int.emod_nonneg i h2
  have m1 := Int.emod_lt_of_pos i (show 0 < E by omega)
  have m2 : i % E ≤ i := by have := Int.mul_ediv_add_emod i E; have : 0 ≤ E * (i / E) := Int.mul_nonneg c1 d0; omega
  rw [t1, t2, wrap_small (i / E) (by omega) (by omega)]
  refine ⟨h2, PreOk.mk ⟨hw, by dsimp only; omega, by dsimp only; omega⟩ rfl, all_holds fun P hP => ?_⟩
  replace hP : P = powS p (openS p).length := by rw [hP]; simp [v_power]
  rw [← hP]
  refine br_dec (fun h => ?_) (fun h3 => ?_)
  · rw [if_pos (.inr (.inr (.inr h)))]; exact ret_le zero_le2
  rw [if_neg (by omega)]
  exact ⟨h2, l_pa00 p hw hm i A E (by omega) (by omega) (by omega) (by omega) b2 _ 0 (i % E) m0 (by omega) (by omega) (by omega) (by omega) (by rw [Int.sub_zero]; omega) (by omega)⟩
end Go.Proofs.Ytclabjihjopclaa.Ax
end

section
/- One by one: seqm's small functions. -/
namespace Go.Proofs.Ytclabjihjopclaa.Ax
open Go.RowKit
set_option linter.unusedVariables false
set_option linter.unusedSimpArgs false
def rins (i : Ins) : RR := .agg ((row i).map .d)
def rdPI : List A → Prg × Int
  | [.agg l, .c (.int _ i)] => (Prg.of l, i)
  | _ => default
def aIns (i : Ins) : A := .agg (row i)
def aVal (r : Bool) (n : Int) : A := .agg [.bool r, .int .i64 n]
def c_sAt : FT (Prg × Int) := ⟨61, fun x => [ap x.1, ai x.2], rdPI, fun _ => True, fun x => rins (atS x.1.ins x.2), false, fun x => by simp [ap, ai, rdPI]⟩
noncomputable def a_sAt : FnA := (fnA Try.prog Try.f61 2 []).getD ⟨0, .skip, [], []⟩
def s_sAt : Sp := spT []
theorem s_sAt_sound : s_sAt.sound Try.prog := spT_sound fun e he => by cases he
set_option maxRecDepth 100000 in
theorem t_sAt (p : Prg) (i : Int) : a_sAt.start s_sAt 400 [ap p, ai i] =
(VC.br (decide (i < (0 : Int)))
 (VC.ret (some (RR.agg [Rc.d (D.int IntKind.i64 (12 : Int)), Rc.d (D.int IntKind.i64 (0 : Int)), Rc.d (D.int IntKind.i64 (0 : Int)), Rc.d (D.bool false), Rc.d (D.int IntKind.i64 (0 : Int)), Rc.d (D.bool false), Rc.d (D.int IntKind.i64 (0 : Int)), Rc.d (D.str { data := #[] }), Rc.d (D.int IntKind.i64 (0 : Int))])))
 (VC.br (decide ((↑(List.length (rowsOn p.ins)) : Int) ≤ i))
  (VC.ret (some (RR.agg [Rc.d (D.int IntKind.i64 (12 : Int)), Rc.d (D.int IntKind.i64 (0 : Int)), Rc.d (D.int IntKind.i64 (0 : Int)), Rc.d (D.bool false), Rc.d (D.int IntKind.i64 (0 : Int)), Rc.d (D.bool false), Rc.d (D.int IntKind.i64 (0 : Int)), Rc.d (D.str { data := #[] }), Rc.d (D.int IntKind.i64 (0 : Int))])))
  (VC.need ((0 : Int) ≤ i ∧ i < (↑(List.length (rowsOn p.ins)) : Int) ∧ List.length (rowAt (rowsOn p.ins) (Int.toNat i)) = (9 : Nat))
  (VC.need (okSh [Kd.int IntKind.i64, Kd.int IntKind.i64, Kd.int IntKind.i64, Kd.bool, Kd.int IntKind.i64, Kd.bool, Kd.int IntKind.i64, Kd.str, Kd.int IntKind.i64] (rowAt (rowsOn p.ins) (Int.toNat i)))
  (VC.ret (some (RR.agg [Rc.d (D.int IntKind.i64 (asInt (List.getD (rowAt (rowsOn p.ins) (Int.toNat i)) (0 : Nat) D.nilp))), Rc.d (D.int IntKind.i64 (asInt (List.getD (rowAt (rowsOn p.ins) (Int.toNat i)) (1 : Nat) D.nilp))), Rc.d (D.int IntKind.i64 (asInt (List.getD (rowAt (rowsOn p.ins) (Int.toNat i)) (2 : Nat) D.nilp))), Rc.d (D.bool (asBool (List.getD (rowAt (rowsOn p.ins) (Int.toNat i)) (3 : Nat) D.nilp))), Rc.d (D.int IntKind.i64 (asInt (List.getD (rowAt (rowsOn p.ins) (Int.toNat i)) (4 : Nat) D.nilp))), Rc.d (D.bool (asBool (List.getD (rowAt (rowsOn p.ins) (Int.toNat i)) (5 : Nat) D.nilp))), Rc.d (D.int IntKind.i64 (asInt (List.getD (rowAt (rowsOn p.ins) (Int.toNat i)) (6 : Nat) D.nilp))), Rc.d (D.str (asStr (List.getD (rowAt (rowsOn p.ins) (Int.toNat i)) (7 : Nat) D.nilp))), Rc.d (D.int IntKind.i64 (asInt (List.getD (rowAt (rowsOn p.ins) (Int.toNat i)) (8 : Nat) D.nilp)))]))))))) := by kernel_rfl
theorem c_sAt_good : c_sAt.fe.Good Try.prog := by
  refine FT.good c_sAt ⟨Try.f61, by kernel_rfl, by decide +kernel, by kernel_rfl⟩ (fun ⟨p, i⟩ => by first | rfl | simp [c_sAt, rrRef, rnum, rby, rss, rnewI, rnewE, rstab, rplaces, ri, rb, rib, rins, Sta.fresh]) fun ⟨p, i⟩ hp => ?_
  refine acalls_le s_sAt_sound (fn := Try.f61) (a := a_sAt) (nargs := 2) (tbl := []) (by kernel_rfl) (by kernel_rfl) rfl (m := 400) ?_
  show VC.holds _ _ _ (a_sAt.start s_sAt 400 [ap p, ai i])
  rw [t_sAt]
  try simp only [asRows_sl, asInt_int, asBool_bool, asStr_str, listOf_rowsOn, List.drop_zero, Prg.eta, Sta.eta, rowsOn_length, getD_drop, Nat.reduceAdd, rd_int, rd_PMem_name, rd_PMem_secret, rd_PMem_n, rd_PLabel_name, rd_PLabel_at_, rd_Ins_kind, rd_Ins_op, rd_Ins_d, rd_Ins_aR, rd_Ins_aN, rd_Ins_bR, rd_Ins_bN, rd_Ins_name, rd_Ins_target, rd_Ent_pc, rd_Ent_val, rd_Ent_addr, rd_Ent_fro, rd_Ent_next, rd_Ent_done, rd_Ent_known, rd_Ent_fault, rd_Place_reg, rd_Place_n, rd_Place_secret, rd_Obs_kind, rd_Obs_at_, rd_Dir_kind, rd_Dir_n, Prg.of_cells, Sta.of_cells]
  try simp only [c_sAt] at hp
  repeat' first
    | refine br_not ?_
    | refine br_dec (fun _ => ?_) (fun _ => ?_)
    | refine br_beq (fun _ => ?_) (fun _ => ?_)
    | refine br_bne (fun _ => ?_) (fun _ => ?_)
    | refine br_holds (fun _ => ?_) (fun _ => ?_)
    | refine ⟨PreOk.mk ?_ rfl, ?_⟩
    | refine ⟨idx_ok _ _ _ rfl (by omega) (by omega), ?_⟩
    | refine ⟨okSh_ok _ _ _ (fun _ => rfl) (by omega) (by omega), ?_⟩
    | refine ⟨okSh_okD _ _ _ _ (fun _ => rfl) (by omega) (by omega), ?_⟩
    | refine ⟨aload_ok _ _ rfl (fun _ => rfl) (by omega) (by omega), ?_⟩
    | refine ⟨aload_okD _ _ _ rfl (fun _ => rfl) (by omega) (by omega), ?_⟩
    | refine ⟨astore_ok (by assumption) rfl (by omega) (by omega) (by decide), ?_⟩
    | refine ⟨app_ok (by assumption) rfl rfl (by simp only [List.length_cons, List.length_nil]; omega), ?_⟩
    | refine need_holds ?_ fun _ => ?_
    | refine all_holds fun y hy => ?_
    | refine ret_le ?_
  all_goals refine RR.le_of_eq ?_
  · show _ = rins (atS p.ins i)
    unfold atS; rw [if_pos (.inl ‹_›)]; rfl
  · show _ = rins (atS p.ins i)
    unfold atS; rw [if_pos (.inr ‹_›)]; rfl
  · show _ = rins (atS p.ins i)
    unfold atS; rw [if_neg (by omega)]; rfl
noncomputable def v_sAt : Prg × Int → Ins := fun x => atS x.1.ins x.2
noncomputable def sh_sAt : Ins → RR := fun i => rins i
theorem e_sAt (x : Prg × Int) : sh_sAt (v_sAt x) = c_sAt.ans x := rfl
theorem reg_out (s : Sta) {i : Int} (h : i < 0 ∨ 4 ≤ i) : s.reg i = 0 := by
  unfold Sta.reg
  rw [if_neg (by omega), if_neg (by omega), if_neg (by omega), if_neg (by omega)]
theorem maskS_0 (w : Int) : maskS w 0 = 0 := by unfold maskS; split <;> simp
def rdPSI : List A → Prg × Sta × Int
  | [.agg l, .agg s, .c (.int _ i)] => (Prg.of l, Sta.of s, i)
  | _ => default
def c_sReg : FT (Prg × Sta × Int) := ⟨104, fun x => [ap x.1, as_ x.2.1, ai x.2.2], rdPSI, fun _ => True, fun x => ri (maskS x.1.w (x.2.1.reg x.2.2)), false, fun x => by simp [ap, as_, ai, rdPSI]⟩
noncomputable def a_sReg : FnA := (fnA Try.prog Try.f104 3 []).getD ⟨0, .skip, [], []⟩
def s_sReg : Sp := spT [c_wMask.fe]
theorem s_sReg_sound : s_sReg.sound Try.prog := spT_sound fun e he => by
  simp only [List.mem_cons, List.not_mem_nil, or_false] at he
  rcases he with rfl
  · exact c_wMask_good
set_option maxRecDepth 100000 in
theorem t_sReg (p : Prg) (s : Sta) (i : Int) : a_sReg.start s_sReg 400 [ap p, as_ s, ai i] =
(VC.br (decide (i < (0 : Int)))
 (VC.ret (some (RR.c (Rc.d (D.int IntKind.i64 (0 : Int))))))
 (VC.br (decide ((4 : Int) ≤ i))
  (VC.ret (some (RR.c (Rc.d (D.int IntKind.i64 (0 : Int))))))
  (VC.br (decide (i = (0 : Int)))
   (VC.need (PreOk c_wMask (p.w, s.r0) [A.c (D.int IntKind.i64 p.w), A.c (D.int IntKind.i64 s.r0)])
   (VC.ret (some (RR.c (Rc.d (D.int IntKind.i64 (maskS p.w s.r0)))))))
   (VC.br (decide (i = (1 : Int)))
    (VC.need (PreOk c_wMask (p.w, s.r1) [A.c (D.int IntKind.i64 p.w), A.c (D.int IntKind.i64 s.r1)])
    (VC.ret (some (RR.c (Rc.d (D.int IntKind.i64 (maskS p.w s.r1)))))))
    (VC.br (decide (i = (2 : Int)))
     (VC.need (PreOk c_wMask (p.w, s.r2) [A.c (D.int IntKind.i64 p.w), A.c (D.int IntKind.i64 s.r2)])
     (VC.ret (some (RR.c (Rc.d (D.int IntKind.i64 (maskS p.w s.r2)))))))
     (VC.br (decide (i = (3 : Int)))
      (VC.need (PreOk c_wMask (p.w, s.r3) [A.c (D.int IntKind.i64 p.w), A.c (D.int IntKind.i64 s.r3)])
      (VC.ret (some (RR.c (Rc.d (D.int IntKind.i64 (maskS p.w s.r3)))))))
      VC.ff)))))) := by kernel_rfl
theorem c_sReg_good : c_sReg.fe.Good Try.prog := by
  refine FT.good c_sReg ⟨Try.f104, by kernel_rfl, by decide +kernel, by kernel_rfl⟩ (fun ⟨p, s, i⟩ => by first | rfl | simp [c_sReg, rrRef, rnum, rby, rss, rnewI, rnewE, rstab, rplaces, ri, rb, rib, rins, Sta.fresh]) fun ⟨p, s, i⟩ hp => ?_
  refine acalls_le s_sReg_sound (fn := Try.f104) (a := a_sReg) (nargs := 3) (tbl := []) (by kernel_rfl) (by kernel_rfl) rfl (m := 400) ?_
  show VC.holds _ _ _ (a_sReg.start s_sReg 400 [ap p, as_ s, ai i])
  rw [t_sReg]
  try simp only [asRows_sl, asInt_int, asBool_bool, asStr_str, listOf_rowsOn, List.drop_zero, Prg.eta, Sta.eta, rowsOn_length, getD_drop, Nat.reduceAdd, rd_int, rd_PMem_name, rd_PMem_secret, rd_PMem_n, rd_PLabel_name, rd_PLabel_at_, rd_Ins_kind, rd_Ins_op, rd_Ins_d, rd_Ins_aR, rd_Ins_aN, rd_Ins_bR, rd_Ins_bN, rd_Ins_name, rd_Ins_target, rd_Ent_pc, rd_Ent_val, rd_Ent_addr, rd_Ent_fro, rd_Ent_next, rd_Ent_done, rd_Ent_known, rd_Ent_fault, rd_Place_reg, rd_Place_n, rd_Place_secret, rd_Obs_kind, rd_Obs_at_, rd_Dir_kind, rd_Dir_n, Prg.of_cells, Sta.of_cells]
  try simp only [c_sReg] at hp
  repeat' first
    | refine br_not ?_
    | refine br_dec (fun _ => ?_) (fun _ => ?_)
    | refine br_beq (fun _ => ?_) (fun _ => ?_)
    | refine br_bne (fun _ => ?_) (fun _ => ?_)
    | refine br_holds (fun _ => ?_) (fun _ => ?_)
    | refine ⟨PreOk.mk ?_ rfl, ?_⟩
    | refine ⟨idx_ok _ _ _ rfl (by omega) (by omega), ?_⟩
    | refine ⟨okSh_ok _ _ _ (fun _ => rfl) (by omega) (by omega), ?_⟩
    | refine ⟨okSh_okD _ _ _ _ (fun _ => rfl) (by omega) (by omega), ?_⟩
    | refine ⟨aload_ok _ _ rfl (fun _ => rfl) (by omega) (by omega), ?_⟩
    | refine ⟨aload_okD _ _ _ rfl (fun _ => rfl) (by omega) (by omega), ?_⟩
    | refine ⟨astore_ok (by assumption) rfl (by omega) (by omega) (by decide), ?_⟩
    | refine ⟨app_ok (by assumption) rfl rfl (by simp only [List.length_cons, List.length_nil]; omega), ?_⟩
    | refine need_holds ?_ fun _ => ?_
    | refine all_holds fun y hy => ?_
    | refine ret_le ?_
  all_goals try exact trivial
  all_goals try (exfalso; omega)
  · exact RR.le_of_eq (by show _ = ri (maskS p.w (s.reg i)); rw [reg_out s (by omega), maskS_0]; rfl)
  · exact RR.le_of_eq (by show _ = ri (maskS p.w (s.reg i)); rw [reg_out s (by omega), maskS_0]; rfl)
  all_goals subst_vars
  all_goals exact RR.le_refl _
noncomputable def v_sReg : Prg × Sta × Int → Int := fun x => maskS x.1.w (x.2.1.reg x.2.2)
noncomputable def sh_sReg : Int → RR := fun i => ri i
theorem e_sReg (x : Prg × Sta × Int) : sh_sReg (v_sReg x) = c_sReg.ans x := rfl
def rdPSV : List A → Prg × Sta × Bool × Int
  | [.agg l, .agg s, .agg [.bool r, .int _ i]] => (Prg.of l, Sta.of s, r, i)
  | _ => default
def c_sVal : FT (Prg × Sta × Bool × Int) := ⟨103, fun x => [ap x.1, as_ x.2.1, aVal x.2.2.1 x.2.2.2], rdPSV, fun _ => True, fun x => ri (valS x.1.w x.2.1 x.2.2.1 x.2.2.2), false, fun x => by simp [ap, as_, aVal, rdPSV]⟩
noncomputable def a_sVal : FnA := (fnA Try.prog Try.f103 3 []).getD ⟨0, .skip, [], []⟩
noncomputable def s_sVal : Sp := spT [c_wMask.fe, c_sReg.gfe v_sReg sh_sReg e_sReg]
theorem s_sVal_sound : s_sVal.sound Try.prog := spT_sound fun e he => by
  simp only [List.mem_cons, List.not_mem_nil, or_false] at he
  rcases he with rfl | rfl
  · exact c_wMask_good
  · exact FT.gfe_good c_sReg_good
set_option maxRecDepth 100000 in
theorem t_sVal (p : Prg) (s : Sta) (r : Bool) (n : Int) : a_sVal.start s_sVal 400 [ap p, as_ s, aVal r n] =
(VC.br (r)
 (VC.need (PreOk c_sReg (Prg.of (Prg.cells p), Sta.of (Sta.cells s), n) [A.agg (Prg.cells p), A.agg (Sta.cells s), A.c (D.int IntKind.i64 n)])
 (VC.all (v_sReg (Prg.of (Prg.cells p), Sta.of (Sta.cells s), n)) fun (y4 : Int) =>
 (VC.ret (some (RR.c (Rc.d (D.int IntKind.i64 y4)))))))
 (VC.need (PreOk c_wMask (p.w, n) [A.c (D.int IntKind.i64 p.w), A.c (D.int IntKind.i64 n)])
 (VC.ret (some (RR.c (Rc.d (D.int IntKind.i64 (maskS p.w n)))))))) := by kernel_rfl
theorem c_sVal_good : c_sVal.fe.Good Try.prog := by
  refine FT.good c_sVal ⟨Try.f103, by kernel_rfl, by decide +kernel, by kernel_rfl⟩ (fun ⟨p, s, r, n⟩ => by first | rfl | simp [c_sVal, rrRef, rnum, rby, rss, rnewI, rnewE, rstab, rplaces, ri, rb, rib, rins, Sta.fresh]) fun ⟨p, s, r, n⟩ hp => ?_
  refine acalls_le s_sVal_sound (fn := Try.f103) (a := a_sVal) (nargs := 3) (tbl := []) (by kernel_rfl) (by kernel_rfl) rfl (m := 400) ?_
  show VC.holds _ _ _ (a_sVal.start s_sVal 400 [ap p, as_ s, aVal r n])
  rw [t_sVal]
  try simp only [asRows_sl, asInt_int, asBool_bool, asStr_str, listOf_rowsOn, List.drop_zero, Prg.eta, Sta.eta, rowsOn_length, getD_drop, Nat.reduceAdd, rd_int, rd_PMem_name, rd_PMem_secret, rd_PMem_n, rd_PLabel_name, rd_PLabel_at_, rd_Ins_kind, rd_Ins_op, rd_Ins_d, rd_Ins_aR, rd_Ins_aN, rd_Ins_bR, rd_Ins_bN, rd_Ins_name, rd_Ins_target, rd_Ent_pc, rd_Ent_val, rd_Ent_addr, rd_Ent_fro, rd_Ent_next, rd_Ent_done, rd_Ent_known, rd_Ent_fault, rd_Place_reg, rd_Place_n, rd_Place_secret, rd_Obs_kind, rd_Obs_at_, rd_Dir_kind, rd_Dir_n, Prg.of_cells, Sta.of_cells]
  try simp only [c_sVal] at hp
  repeat' first
    | refine br_not ?_
    | refine br_dec (fun _ => ?_) (fun _ => ?_)
    | refine br_beq (fun _ => ?_) (fun _ => ?_)
    | refine br_bne (fun _ => ?_) (fun _ => ?_)
    | refine br_holds (fun _ => ?_) (fun _ => ?_)
    | refine ⟨PreOk.mk ?_ rfl, ?_⟩
    | refine ⟨idx_ok _ _ _ rfl (by omega) (by omega), ?_⟩
    | refine ⟨okSh_ok _ _ _ (fun _ => rfl) (by omega) (by omega), ?_⟩
    | refine ⟨okSh_okD _ _ _ _ (fun _ => rfl) (by omega) (by omega), ?_⟩
    | refine ⟨aload_ok _ _ rfl (fun _ => rfl) (by omega) (by omega), ?_⟩
    | refine ⟨aload_okD _ _ _ rfl (fun _ => rfl) (by omega) (by omega), ?_⟩
    | refine ⟨astore_ok (by assumption) rfl (by omega) (by omega) (by decide), ?_⟩
    | refine ⟨app_ok (by assumption) rfl rfl (by simp only [List.length_cons, List.length_nil]; omega), ?_⟩
    | refine need_holds ?_ fun _ => ?_
    | refine all_holds fun y hy => ?_
    | refine ret_le ?_
  all_goals subst_vars
  all_goals try exact trivial
  all_goals try simp only [Prg.of_cells, Sta.of_cells]
  all_goals first | exact trivial | refine RR.le_of_eq ?_
  all_goals exact (show RR.c (Rc.d (D.int .i64 _)) = RR.c (Rc.d (D.int .i64 (valS p.w s _ n))) from by simp [valS, v_sReg])
noncomputable def v_sVal : Prg × Sta × Bool × Int → Int := fun x => valS x.1.w x.2.1 x.2.2.1 x.2.2.2
noncomputable def sh_sVal : Int → RR := fun i => ri i
theorem e_sVal (x : Prg × Sta × Bool × Int) : sh_sVal (v_sVal x) = c_sVal.ans x := rfl
def rdPIn3 : List A → Prg × Ins × Int × Int × Int
  | [.agg l, .agg s, .c (.int _ a), .c (.int _ b), .c (.int _ d)] => (Prg.of l, Row.of s, a, b, d)
  | _ => default
def c_sValue : FT (Prg × Ins × Int × Int × Int) := ⟨102, fun x => [ap x.1, aIns x.2.1, ai x.2.2.1, ai x.2.2.2.1, ai x.2.2.2.2], rdPIn3, fun _ => True, fun x => ri (valueS x.1.w x.2.1 x.2.2.1 x.2.2.2.1 x.2.2.2.2), false, fun x => by simp [ap, aIns, ai, rdPIn3, Row.of_row]⟩
noncomputable def a_sValue : FnA := (fnA Try.prog Try.f102 5 []).getD ⟨0, .skip, [], []⟩
def s_sValue : Sp := spT [c_wDo.fe]
theorem s_sValue_sound : s_sValue.sound Try.prog := spT_sound fun e he => by
  simp only [List.mem_cons, List.not_mem_nil, or_false] at he
  rcases he with rfl
  · exact c_wDo_good
set_option maxRecDepth 100000 in
theorem t_sValue (p : Prg) (i : Ins) (a b d : Int) : a_sValue.start s_sValue 400 [ap p, aIns i, ai a, ai b, ai d] =
(VC.br (i.kind == (4 : Int))
 (VC.br (a != (0 : Int))
  (VC.ret (some (RR.c (Rc.d (D.int IntKind.i64 b)))))
  (VC.ret (some (RR.c (Rc.d (D.int IntKind.i64 d))))))
 (VC.need (PreOk c_wDo (p.w, i.op, a, b) [A.c (D.int IntKind.i64 p.w), A.c (D.int IntKind.i64 i.op), A.c (D.int IntKind.i64 a), A.c (D.int IntKind.i64 b)])
 (VC.ret (some (RR.c (Rc.d (D.int IntKind.i64 (doS p.w i.op a b).fst))))))) := by kernel_rfl
theorem c_sValue_good : c_sValue.fe.Good Try.prog := by
  refine FT.good c_sValue ⟨Try.f102, by kernel_rfl, by decide +kernel, by kernel_rfl⟩ (fun ⟨p, i, a, b, d⟩ => by first | rfl | simp [c_sValue, rrRef, rnum, rby, rss, rnewI, rnewE, rstab, rplaces, ri, rb, rib, rins, Sta.fresh]) fun ⟨p, i, a, b, d⟩ hp => ?_
  refine acalls_le s_sValue_sound (fn := Try.f102) (a := a_sValue) (nargs := 5) (tbl := []) (by kernel_rfl) (by kernel_rfl) rfl (m := 400) ?_
  show VC.holds _ _ _ (a_sValue.start s_sValue 400 [ap p, aIns i, ai a, ai b, ai d])
  rw [t_sValue]
  try simp only [asRows_sl, asInt_int, asBool_bool, asStr_str, listOf_rowsOn, List.drop_zero, Prg.eta, Sta.eta, rowsOn_length, getD_drop, Nat.reduceAdd, rd_int, rd_PMem_name, rd_PMem_secret, rd_PMem_n, rd_PLabel_name, rd_PLabel_at_, rd_Ins_kind, rd_Ins_op, rd_Ins_d, rd_Ins_aR, rd_Ins_aN, rd_Ins_bR, rd_Ins_bN, rd_Ins_name, rd_Ins_target, rd_Ent_pc, rd_Ent_val, rd_Ent_addr, rd_Ent_fro, rd_Ent_next, rd_Ent_done, rd_Ent_known, rd_Ent_fault, rd_Place_reg, rd_Place_n, rd_Place_secret, rd_Obs_kind, rd_Obs_at_, rd_Dir_kind, rd_Dir_n, Prg.of_cells, Sta.of_cells]
  try simp only [c_sValue] at hp
  repeat' first
    | refine br_not ?_
    | refine br_dec (fun _ => ?_) (fun _ => ?_)
    | refine br_beq (fun _ => ?_) (fun _ => ?_)
    | refine br_bne (fun _ => ?_) (fun _ => ?_)
    | refine br_holds (fun _ => ?_) (fun _ => ?_)
    | refine ⟨PreOk.mk ?_ rfl, ?_⟩
    | refine ⟨idx_ok _ _ _ rfl (by omega) (by omega), ?_⟩
    | refine ⟨okSh_ok _ _ _ (fun _ => rfl) (by omega) (by omega), ?_⟩
    | refine ⟨okSh_okD _ _ _ _ (fun _ => rfl) (by omega) (by omega), ?_⟩
    | refine ⟨aload_ok _ _ rfl (fun _ => rfl) (by omega) (by omega), ?_⟩
    | refine ⟨aload_okD _ _ _ rfl (fun _ => rfl) (by omega) (by omega), ?_⟩
    | refine ⟨astore_ok (by assumption) rfl (by omega) (by omega) (by decide), ?_⟩
    | refine ⟨app_ok (by assumption) rfl rfl (by simp only [List.length_cons, List.length_nil]; omega), ?_⟩
    | refine need_holds ?_ fun _ => ?_
    | refine all_holds fun y hy => ?_
    | refine ret_le ?_
  all_goals try exact trivial
  all_goals refine RR.le_of_eq ?_
  all_goals simp_all [c_sValue, valueS, ri]
noncomputable def v_sValue : Prg × Ins × Int × Int × Int → Int := fun x => valueS x.1.w x.2.1 x.2.2.1 x.2.2.2.1 x.2.2.2.2
noncomputable def sh_sValue : Int → RR := fun i => ri i
theorem e_sValue (x : Prg × Ins × Int × Int × Int) : sh_sValue (v_sValue x) = c_sValue.ans x := rfl
def rdP2 : List A → Prg × Int × Int
  | [.agg l, .c (.int _ a), .c (.int _ b)] => (Prg.of l, a, b)
  | _ => default
def c_sAddr : FT (Prg × Int × Int) := ⟨131, fun x => [ap x.1, ai x.2.1, ai x.2.2], rdP2, fun x => Mems x.1.mems ∧ 0 ≤ x.2.1 ∧ x.2.1 < 65536 ∧ 0 ≤ x.2.2 ∧ x.2.2 < 65536, fun x => rib (maskS x.1.w (x.2.1 + x.2.2), decide (maskS x.1.w (x.2.1 + x.2.2) < cellsS x.1.mems)), false, fun x => by simp [ap, ai, rdP2]⟩
noncomputable def a_sAddr : FnA := (fnA Try.prog Try.f131 3 []).getD ⟨0, .skip, [], []⟩
noncomputable def v_aCells : Prg → Int := fun x => cellsS x.mems
noncomputable def sh_aCells : Int → RR := fun i => ri i
theorem e_aCells (x : Prg) : sh_aCells (v_aCells x) = c_aCells.ans x := rfl
noncomputable def s_sAddr : Sp := spT [c_wMask.fe, c_aCells.gfe v_aCells sh_aCells e_aCells]
theorem s_sAddr_sound : s_sAddr.sound Try.prog := spT_sound fun e he => by
  simp only [List.mem_cons, List.not_mem_nil, or_false] at he
  rcases he with rfl | rfl
  · exact c_wMask_good
  · exact FT.gfe_good c_aCells_good
set_option maxRecDepth 100000 in
theorem t_sAddr (p : Prg) (a b : Int) : a_sAddr.start s_sAddr 400 [ap p, ai a, ai b] =
(VC.need (PreOk c_wMask (p.w, IntKind.wrap IntKind.i64 (a + b)) [A.c (D.int IntKind.i64 p.w), A.c (D.int IntKind.i64 (IntKind.wrap IntKind.i64 (a + b)))])
(VC.need (PreOk c_aCells p [A.agg (Prg.cells p)])
(VC.all (v_aCells { w := p.w, window := p.window, fuel := p.fuel, r0 := p.r0, r1 := p.r1, r2 := p.r2, r3 := p.r3, mems := listOf PMem (rowsOn p.mems), labels := listOf PLabel (rowsOn p.labels), ins := listOf Ins (rowsOn p.ins) }) fun (y3 : Int) =>
(VC.ret (some (RR.tup [Sum.inl (Rc.d (D.int IntKind.i64 (maskS p.w (IntKind.wrap IntKind.i64 (a + b))))), Sum.inl (Rc.d (D.bool (decide (maskS p.w (IntKind.wrap IntKind.i64 (a + b)) < y3))))])))))) := by kernel_rfl
theorem c_sAddr_good : c_sAddr.fe.Good Try.prog := by
  refine FT.good c_sAddr ⟨Try.f131, by kernel_rfl, by decide +kernel, by kernel_rfl⟩ (fun ⟨p, a, b⟩ => by first | rfl | simp [c_sAddr, rrRef, rnum, rby, rss, rnewI, rnewE, rstab, rplaces, ri, rb, rib, rins, Sta.fresh]) fun ⟨p, a, b⟩ hp => ?_
  refine acalls_le s_sAddr_sound (fn := Try.f131) (a := a_sAddr) (nargs := 3) (tbl := []) (by kernel_rfl) (by kernel_rfl) rfl (m := 400) ?_
  show VC.holds _ _ _ (a_sAddr.start s_sAddr 400 [ap p, ai a, ai b])
  rw [t_sAddr]
  try simp only [asRows_sl, asInt_int, asBool_bool, asStr_str, listOf_rowsOn, List.drop_zero, Prg.eta, Sta.eta, rowsOn_length, getD_drop, Nat.reduceAdd, rd_int, rd_PMem_name, rd_PMem_secret, rd_PMem_n, rd_PLabel_name, rd_PLabel_at_, rd_Ins_kind, rd_Ins_op, rd_Ins_d, rd_Ins_aR, rd_Ins_aN, rd_Ins_bR, rd_Ins_bN, rd_Ins_name, rd_Ins_target, rd_Ent_pc, rd_Ent_val, rd_Ent_addr, rd_Ent_fro, rd_Ent_next, rd_Ent_done, rd_Ent_known, rd_Ent_fault, rd_Place_reg, rd_Place_n, rd_Place_secret, rd_Obs_kind, rd_Obs_at_, rd_Dir_kind, rd_Dir_n, Prg.of_cells, Sta.of_cells]
  try simp only [c_sAddr] at hp
  obtain ⟨hm, h1, h2, h3, h4⟩ := hp
  rw [wrap_small (a + b) (by omega) (by omega)]
  repeat' first
    | refine br_not ?_
    | refine br_dec (fun _ => ?_) (fun _ => ?_)
    | refine br_beq (fun _ => ?_) (fun _ => ?_)
    | refine br_bne (fun _ => ?_) (fun _ => ?_)
    | refine br_holds (fun _ => ?_) (fun _ => ?_)
    | refine ⟨PreOk.mk ?_ rfl, ?_⟩
    | refine ⟨idx_ok _ _ _ rfl (by omega) (by omega), ?_⟩
    | refine ⟨okSh_ok _ _ _ (fun _ => rfl) (by omega) (by omega), ?_⟩
    | refine ⟨okSh_okD _ _ _ _ (fun _ => rfl) (by omega) (by omega), ?_⟩
    | refine ⟨aload_ok _ _ rfl (fun _ => rfl) (by omega) (by omega), ?_⟩
    | refine ⟨aload_okD _ _ _ rfl (fun _ => rfl) (by omega) (by omega), ?_⟩
    | refine ⟨astore_ok (by assumption) rfl (by omega) (by omega) (by decide), ?_⟩
    | refine ⟨app_ok (by assumption) rfl rfl (by simp only [List.length_cons, List.length_nil]; omega), ?_⟩
    | refine need_holds ?_ fun _ => ?_
    | refine all_holds fun y hy => ?_
    | refine ret_le ?_
  all_goals subst_vars
  all_goals try exact trivial
  all_goals try simp only [Prg.of_cells, Sta.of_cells]
  all_goals first | exact hm | exact RR.le_of_eq rfl | trace_state
noncomputable def v_sAddr : Prg × Int × Int → Int × Bool := fun x => (maskS x.1.w (x.2.1 + x.2.2), decide (maskS x.1.w (x.2.1 + x.2.2) < cellsS x.1.mems))
noncomputable def sh_sAddr : Int × Bool → RR := fun i => rib i
theorem e_sAddr (x : Prg × Int × Int) : sh_sAddr (v_sAddr x) = c_sAddr.ans x := rfl
def c_sWay : FT (Prg × Ins × Int × Int × Int) := ⟨107, fun x => [ap x.1, aIns x.2.1, ai x.2.2.1, ai x.2.2.2.1, ai x.2.2.2.2], rdPIn3, fun x => -10 ≤ x.2.2.1 ∧ x.2.2.1 ≤ 1000000, fun x => ri (wayS x.1.w x.1.ins.length x.2.1 x.2.2.1 x.2.2.2.1 x.2.2.2.2), false, fun x => by simp [ap, aIns, ai, rdPIn3, Row.of_row]⟩
noncomputable def a_sWay : FnA := (fnA Try.prog Try.f107 5 []).getD ⟨0, .skip, [], []⟩
def s_sWay : Sp := spT [c_wDo.fe]
theorem s_sWay_sound : s_sWay.sound Try.prog := spT_sound fun e he => by
  simp only [List.mem_cons, List.not_mem_nil, or_false] at he
  rcases he with rfl
  · exact c_wDo_good
set_option maxRecDepth 100000 in
theorem t_sWay (p : Prg) (i : Ins) (pc a b : Int) : a_sWay.start s_sWay 400 [ap p, aIns i, ai pc, ai a, ai b] =
(VC.br (i.kind == (7 : Int))
 (VC.ret (some (RR.c (Rc.d (D.int IntKind.i64 (min a (↑(List.length (rowsOn p.ins)) : Int)))))))
 (VC.need (PreOk c_wDo (p.w, i.op, a, b) [A.c (D.int IntKind.i64 p.w), A.c (D.int IntKind.i64 i.op), A.c (D.int IntKind.i64 a), A.c (D.int IntKind.i64 b)])
 (VC.br ((doS p.w i.op a b).fst != (0 : Int))
  (VC.ret (some (RR.c (Rc.d (D.int IntKind.i64 i.target)))))
  (VC.ret (some (RR.c (Rc.d (D.int IntKind.i64 (IntKind.wrap IntKind.i64 (pc + (1 : Int))))))))))) := by kernel_rfl
theorem c_sWay_good : c_sWay.fe.Good Try.prog := by
  refine FT.good c_sWay ⟨Try.f107, by kernel_rfl, by decide +kernel, by kernel_rfl⟩ (fun ⟨p, i, pc, a, b⟩ => by first | rfl | simp [c_sWay, rrRef, rnum, rby, rss, rnewI, rnewE, rstab, rplaces, ri, rb, rib, rins, Sta.fresh]) fun ⟨p, i, pc, a, b⟩ hp => ?_
  refine acalls_le s_sWay_sound (fn := Try.f107) (a := a_sWay) (nargs := 5) (tbl := []) (by kernel_rfl) (by kernel_rfl) rfl (m := 400) ?_
  show VC.holds _ _ _ (a_sWay.start s_sWay 400 [ap p, aIns i, ai pc, ai a, ai b])
  rw [t_sWay]
  try simp only [asRows_sl, asInt_int, asBool_bool, asStr_str, listOf_rowsOn, List.drop_zero, Prg.eta, Sta.eta, rowsOn_length, getD_drop, Nat.reduceAdd, rd_int, rd_PMem_name, rd_PMem_secret, rd_PMem_n, rd_PLabel_name, rd_PLabel_at_, rd_Ins_kind, rd_Ins_op, rd_Ins_d, rd_Ins_aR, rd_Ins_aN, rd_Ins_bR, rd_Ins_bN, rd_Ins_name, rd_Ins_target, rd_Ent_pc, rd_Ent_val, rd_Ent_addr, rd_Ent_fro, rd_Ent_next, rd_Ent_done, rd_Ent_known, rd_Ent_fault, rd_Place_reg, rd_Place_n, rd_Place_secret, rd_Obs_kind, rd_Obs_at_, rd_Dir_kind, rd_Dir_n, Prg.of_cells, Sta.of_cells]
  try simp only [c_sWay] at hp
  obtain ⟨h1, h2⟩ := hp
  rw [wrap_small (pc + 1) (by omega) (by omega)]
  repeat' first
    | refine br_not ?_
    | refine br_dec (fun _ => ?_) (fun _ => ?_)
    | refine br_beq (fun _ => ?_) (fun _ => ?_)
    | refine br_bne (fun _ => ?_) (fun _ => ?_)
    | refine br_holds (fun _ => ?_) (fun _ => ?_)
    | refine ⟨PreOk.mk ?_ rfl, ?_⟩
    | refine ⟨idx_ok _ _ _ rfl (by omega) (by omega), ?_⟩
    | refine ⟨okSh_ok _ _ _ (fun _ => rfl) (by omega) (by omega), ?_⟩
    | refine ⟨okSh_okD _ _ _ _ (fun _ => rfl) (by omega) (by omega), ?_⟩
    | refine ⟨aload_ok _ _ rfl (fun _ => rfl) (by omega) (by omega), ?_⟩
    | refine ⟨aload_okD _ _ _ rfl (fun _ => rfl) (by omega) (by omega), ?_⟩
    | refine ⟨astore_ok (by assumption) rfl (by omega) (by omega) (by decide), ?_⟩
    | refine ⟨app_ok (by assumption) rfl rfl (by simp only [List.length_cons, List.length_nil]; omega), ?_⟩
    | refine need_holds ?_ fun _ => ?_
    | refine all_holds fun y hy => ?_
    | refine ret_le ?_
  all_goals try exact trivial
  all_goals refine RR.le_of_eq ?_
  all_goals simp_all [c_sWay, wayS, ri]
noncomputable def v_sWay : Prg × Ins × Int × Int × Int → Int := fun x => wayS x.1.w x.1.ins.length x.2.1 x.2.2.1 x.2.2.2.1 x.2.2.2.2
noncomputable def sh_sWay : Int → RR := fun i => ri i
theorem e_sWay (x : Prg × Ins × Int × Int × Int) : sh_sWay (v_sWay x) = c_sWay.ans x := rfl
end Go.Proofs.Ytclabjihjopclaa.Ax
end

section
/- One by one: seqm.Step. -/
namespace Go.Proofs.Ytclabjihjopclaa.Ax
open Go.RowKit
set_option linter.unusedVariables false
set_option linter.unusedSimpArgs false
def rstep (x : Sta × List Obs × Int) : RR := .tup [.inr (x.1.cells.map .d), .inl (.d (.sl (rowsOn x.2.1))), .inl (.d (.int .i64 x.2.2))]
def rdPS : List A → Prg × Sta
  | [.agg l, .agg s] => (Prg.of l, Sta.of s)
  | _ => default
def rdSI : List A → Sta × Int
  | [.agg s, .c (.int _ i)] => (Sta.of s, i)
  | _ => default
def jumpS (s : Sta) (to : Int) : Sta × List Obs × Int := ({ s with pc := to }, [⟨3, to⟩], 0)
def c_sJump : FT (Sta × Int) := ⟨106, fun x => [as_ x.1, ai x.2], rdSI, fun _ => True, fun x => rstep (jumpS x.1 x.2), true, fun x => by simp [as_, ai, rdSI]⟩
noncomputable def a_sJump : FnA := (fnA Try.prog Try.f106 2 []).getD ⟨0, .skip, [], []⟩
def s_sJump : Sp := spT []
theorem s_sJump_sound : s_sJump.sound Try.prog := spT_sound fun e he => by cases he
set_option maxRecDepth 100000 in
theorem t_sJump (s : Sta) (i : Int) : a_sJump.start s_sJump 400 [as_ s, ai i] =
(VC.ret (some (RR.tup [Sum.inr [Rc.d (D.int IntKind.i64 s.r0), Rc.d (D.int IntKind.i64 s.r1), Rc.d (D.int IntKind.i64 s.r2), Rc.d (D.int IntKind.i64 s.r3), Rc.d (D.sl (rowsOn s.mem)), Rc.d (D.sl (rowsOn s.stack)), Rc.d (D.int IntKind.i64 i)], Sum.inl (Rc.new (2 : Nat) [[D.int IntKind.i64 (3 : Int), D.int IntKind.i64 i]]), Sum.inl (Rc.d (D.int IntKind.i64 (0 : Int)))]))) := by kernel_rfl
theorem c_sJump_good : c_sJump.fe.Good Try.prog := by
  refine FT.good c_sJump ⟨Try.f106, by kernel_rfl, by decide +kernel, by kernel_rfl⟩ (fun ⟨s, i⟩ => by first | rfl | simp [c_sJump, rrRef, rins, rnum, rby, rss, rnewI, rnewE, rstab, rplaces, ri, rb, rib, rstep, Sta.fresh]) fun ⟨s, i⟩ hp => ?_
  refine acalls_leD s_sJump_sound (fn := Try.f106) (a := a_sJump) (nargs := 2) (tbl := []) (by kernel_rfl) (by kernel_rfl) rfl (m := 400) ?_
  show VC.holds _ _ _ (a_sJump.start s_sJump 400 [as_ s, ai i])
  rw [t_sJump]
  try simp only [asRows_sl, asInt_int, asBool_bool, asStr_str, listOf_rowsOn, List.drop_zero, Prg.eta, Sta.eta, rowsOn_length, getD_drop, Nat.reduceAdd, rd_int, rd_PMem_name, rd_PMem_secret, rd_PMem_n, rd_PLabel_name, rd_PLabel_at_, rd_Ins_kind, rd_Ins_op, rd_Ins_d, rd_Ins_aR, rd_Ins_aN, rd_Ins_bR, rd_Ins_bN, rd_Ins_name, rd_Ins_target, rd_Ent_pc, rd_Ent_val, rd_Ent_addr, rd_Ent_fro, rd_Ent_next, rd_Ent_done, rd_Ent_known, rd_Ent_fault, rd_Place_reg, rd_Place_n, rd_Place_secret, rd_Obs_kind, rd_Obs_at_, rd_Dir_kind, rd_Dir_n, Prg.of_cells, Sta.of_cells]
  try simp only [c_sJump] at hp
  repeat' first
    | refine br_not ?_
    | refine br_dec (fun _ => ?_) (fun _ => ?_)
    | refine br_beq (fun _ => ?_) (fun _ => ?_)
    | refine br_bne (fun _ => ?_) (fun _ => ?_)
    | refine br_holds (fun _ => ?_) (fun _ => ?_)
    | refine ⟨PreOk.mk ?_ rfl, ?_⟩
    | refine ⟨idx_ok _ _ _ rfl (by omega) (by omega), ?_⟩
    | refine ⟨okSh_ok _ _ _ (fun _ => rfl) (by omega) (by omega), ?_⟩
    | refine ⟨okSh_okD _ _ _ _ (fun _ => rfl) (by omega) (by omega), ?_⟩
    | refine ⟨aload_ok _ _ rfl (fun _ => rfl) (by omega) (by omega), ?_⟩
    | refine ⟨aload_okD _ _ _ rfl (fun _ => rfl) (by omega) (by omega), ?_⟩
    | refine ⟨astore_ok (by assumption) rfl (by omega) (by omega) (by decide), ?_⟩
    | refine ⟨app_ok (by assumption) rfl rfl (by simp only [List.length_cons, List.length_nil]; omega), ?_⟩
    | refine need_holds ?_ fun _ => ?_
    | refine all_holds fun y hy => ?_
    | refine ret_leD ?_
  exact RR.le_refl _
noncomputable def v_sJump : Sta × Int → Sta × List Obs × Int := fun x => jumpS x.1 x.2
noncomputable def sh_sJump : Sta × List Obs × Int → RR := fun x => rstep x
theorem e_sJump (x : Sta × Int) : sh_sJump (v_sJump x) = c_sJump.ans x := rfl
def backS (s was : Sta) : Sta × List Obs × Int := if s.stack.length = 0 then (was, [], 2) else jumpS { s with stack := s.stack.dropLast } (rd s.stack (s.stack.length - 1))
def c_sBack : FT (Sta × Sta) := ⟨108, fun x => [as_ x.1, as_ x.2], rdSS, fun x => SmallS x.1, fun x => rstep (backS x.1 x.2), true, fun x => by simp [as_, rdSS]⟩
noncomputable def a_sBack : FnA := (fnA Try.prog Try.f108 2 []).getD ⟨0, .skip, [], []⟩
noncomputable def s_sBack : Sp := spT [c_sJump.gfe v_sJump sh_sJump e_sJump]
theorem s_sBack_sound : s_sBack.sound Try.prog := spT_sound fun e he => by
  simp only [List.mem_cons, List.not_mem_nil, or_false] at he
  rcases he with rfl
  · exact FT.gfe_good c_sJump_good
set_option maxRecDepth 100000 in
theorem t_sBack (s t : Sta) : a_sBack.start s_sBack 400 [as_ s, as_ t] =
(VC.br ((↑(List.length (rowsOn s.stack)) : Int) == (0 : Int))
 (VC.ret (some (RR.tup [Sum.inr [Rc.d (D.int IntKind.i64 t.r0), Rc.d (D.int IntKind.i64 t.r1), Rc.d (D.int IntKind.i64 t.r2), Rc.d (D.int IntKind.i64 t.r3), Rc.d (D.sl (rowsOn t.mem)), Rc.d (D.sl (rowsOn t.stack)), Rc.d (D.int IntKind.i64 t.pc)], Sum.inl Rc.nil, Sum.inl (Rc.d (D.int IntKind.i64 (2 : Int)))])))
 (VC.need ((0 : Int) ≤ IntKind.wrap IntKind.i64 ((↑(List.length (rowsOn s.stack)) : Int) - (1 : Int)) ∧ IntKind.wrap IntKind.i64 ((↑(List.length (rowsOn s.stack)) : Int) - (1 : Int)) < (↑(List.length (rowsOn s.stack)) : Int) ∧ List.length (rowAt (rowsOn s.stack) (Int.toNat (IntKind.wrap IntKind.i64 ((↑(List.length (rowsOn s.stack)) : Int) - (1 : Int))))) = (1 : Nat))
 (VC.need (okSh [Kd.int IntKind.i64] (rowAt (rowsOn s.stack) (Int.toNat (IntKind.wrap IntKind.i64 ((↑(List.length (rowsOn s.stack)) : Int) - (1 : Int))))))
 (VC.need ((List.all (rowsOn s.stack) fun r ↦ List.length r == (1 : Nat)) = true ∧ (0 : Int) ≤ (0 : Int) ∧ (0 : Int) ≤ IntKind.wrap IntKind.i64 ((↑(List.length (rowsOn s.stack)) : Int) - (1 : Int)) ∧ IntKind.wrap IntKind.i64 ((↑(List.length (rowsOn s.stack)) : Int) - (1 : Int)) ≤ (↑(List.length (rowsOn s.stack)) : Int))
 (VC.need (PreOk c_sJump (Sta.of [D.int IntKind.i64 s.r0, D.int IntKind.i64 s.r1, D.int IntKind.i64 s.r2, D.int IntKind.i64 s.r3, D.sl (rowsOn s.mem), D.sl (List.drop (0 : Nat) (List.take (Int.toNat (IntKind.wrap IntKind.i64 ((↑(List.length (rowsOn s.stack)) : Int) - (1 : Int)))) (rowsOn s.stack))), D.int IntKind.i64 s.pc], asInt (List.getD (rowAt (rowsOn s.stack) (Int.toNat (IntKind.wrap IntKind.i64 ((↑(List.length (rowsOn s.stack)) : Int) - (1 : Int))))) (0 : Nat) D.nilp)) [A.agg [D.int IntKind.i64 s.r0, D.int IntKind.i64 s.r1, D.int IntKind.i64 s.r2, D.int IntKind.i64 s.r3, D.sl (rowsOn s.mem), D.sl (List.drop (0 : Nat) (List.take (Int.toNat (IntKind.wrap IntKind.i64 ((↑(List.length (rowsOn s.stack)) : Int) - (1 : Int)))) (rowsOn s.stack))), D.int IntKind.i64 s.pc], A.c (D.int IntKind.i64 (asInt (List.getD (rowAt (rowsOn s.stack) (Int.toNat (IntKind.wrap IntKind.i64 ((↑(List.length (rowsOn s.stack)) : Int) - (1 : Int))))) (0 : Nat) D.nilp)))])
 (VC.all (({ r0 := s.r0, r1 := s.r1, r2 := s.r2, r3 := s.r3, mem := listOf Int (rowsOn s.mem), stack := listOf Int (List.drop (0 : Nat) (List.take (Int.toNat (IntKind.wrap IntKind.i64 ((↑(List.length (rowsOn s.stack)) : Int) - (1 : Int)))) (rowsOn s.stack))), pc := asInt (List.getD (rowAt (rowsOn s.stack) (Int.toNat (IntKind.wrap IntKind.i64 ((↑(List.length (rowsOn s.stack)) : Int) - (1 : Int))))) (0 : Nat) D.nilp) }, [{ kind := (3 : Int), at_ := asInt (List.getD (rowAt (rowsOn s.stack) (Int.toNat (IntKind.wrap IntKind.i64 ((↑(List.length (rowsOn s.stack)) : Int) - (1 : Int))))) (0 : Nat) D.nilp) }], (0 : Int))) fun (y2 : Sta × List Obs × Int) =>
 (VC.ret (some (RR.tup [Sum.inr [Rc.d (D.int IntKind.i64 y2.fst.r0), Rc.d (D.int IntKind.i64 y2.fst.r1), Rc.d (D.int IntKind.i64 y2.fst.r2), Rc.d (D.int IntKind.i64 y2.fst.r3), Rc.d (D.sl (rowsOn y2.fst.mem)), Rc.d (D.sl (rowsOn y2.fst.stack)), Rc.d (D.int IntKind.i64 y2.fst.pc)], Sum.inl (Rc.d (D.sl (rowsOn y2.snd.fst))), Sum.inl (Rc.d (D.int IntKind.i64 y2.snd.snd))]))))))))) := by kernel_rfl
theorem c_sBack_good : c_sBack.fe.Good Try.prog := by
  refine FT.good c_sBack ⟨Try.f108, by kernel_rfl, by decide +kernel, by kernel_rfl⟩ (fun ⟨s, t⟩ => by first | rfl | simp [c_sBack, rrRef, rins, rnum, rby, rss, rnewI, rnewE, rstab, rplaces, ri, rb, rib, rstep, Sta.fresh]) fun ⟨s, t⟩ hp => ?_
  refine acalls_leD s_sBack_sound (fn := Try.f108) (a := a_sBack) (nargs := 2) (tbl := []) (by kernel_rfl) (by kernel_rfl) rfl (m := 400) ?_
  show VC.holds _ _ _ (a_sBack.start s_sBack 400 [as_ s, as_ t])
  rw [t_sBack]
  try simp only [asRows_sl, asInt_int, asBool_bool, asStr_str, listOf_rowsOn, List.drop_zero, Prg.eta, Sta.eta, rowsOn_length, getD_drop, Nat.reduceAdd, rd_int, rd_PMem_name, rd_PMem_secret, rd_PMem_n, rd_PLabel_name, rd_PLabel_at_, rd_Ins_kind, rd_Ins_op, rd_Ins_d, rd_Ins_aR, rd_Ins_aN, rd_Ins_bR, rd_Ins_bN, rd_Ins_name, rd_Ins_target, rd_Ent_pc, rd_Ent_val, rd_Ent_addr, rd_Ent_fro, rd_Ent_next, rd_Ent_done, rd_Ent_known, rd_Ent_fault, rd_Place_reg, rd_Place_n, rd_Place_secret, rd_Obs_kind, rd_Obs_at_, rd_Dir_kind, rd_Dir_n, Prg.of_cells, Sta.of_cells]
  try simp only [c_sBack] at hp
  obtain ⟨h1, h2⟩ := hp
  by_cases h0 : s.stack.length = 0
  · have e : c_sBack.ans (s, t) = rstep (t, [], 2) := congrArg rstep (if_pos h0)
    rw [e]
    repeat' first
      | refine br_not ?_
      | refine br_dec (fun _ => ?_) (fun _ => ?_)
      | refine br_beq (fun _ => ?_) (fun _ => ?_)
      | refine br_bne (fun _ => ?_) (fun _ => ?_)
      | refine br_holds (fun _ => ?_) (fun _ => ?_)
      | refine ⟨PreOk.mk ?_ rfl, ?_⟩
      | refine ⟨idx_ok _ _ _ rfl (by omega) (by omega), ?_⟩
      | refine ⟨okSh_ok _ _ _ (fun _ => rfl) (by omega) (by omega), ?_⟩
      | refine ⟨okSh_okD _ _ _ _ (fun _ => rfl) (by omega) (by omega), ?_⟩
      | refine ⟨aload_ok _ _ rfl (fun _ => rfl) (by omega) (by omega), ?_⟩
      | refine ⟨aload_okD _ _ _ rfl (fun _ => rfl) (by omega) (by omega), ?_⟩
      | refine ⟨astore_ok (by assumption) rfl (by omega) (by omega) (by decide), ?_⟩
      | refine ⟨app_ok (by assumption) rfl rfl (by simp only [List.length_cons, List.length_nil]; omega), ?_⟩
      | refine need_holds ?_ fun _ => ?_
      | refine all_holds fun y hy => ?_
      | refine ret_leD ?_
    all_goals try (exfalso; omega)
    all_goals exact RR.le_of_eq rfl
  · have e : c_sBack.ans (s, t) = rstep (jumpS { s with stack := s.stack.dropLast } (rd s.stack (s.stack.length - 1))) := congrArg rstep (if_neg h0)
    rw [e, wrap_small (s.stack.length - 1 : Int) (by omega) (by omega)]
    have et : List.take (Int.toNat ((s.stack.length : Int) - 1)) (rowsOn s.stack) = rowsOn s.stack.dropLast := by
      rw [show Int.toNat ((s.stack.length : Int) - 1) = s.stack.length - 1 by omega, List.dropLast_eq_take]
      unfold rowsOn
      rw [List.map_take]
    rw [et]
    have ec : (Sta.of [.int .i64 s.r0, .int .i64 s.r1, .int .i64 s.r2, .int .i64 s.r3, .sl (rowsOn s.mem), .sl (rowsOn s.stack.dropLast), .int .i64 s.pc]) = { s with stack := s.stack.dropLast } := by simp [Sta.of]
    rw [ec]
    repeat' first
      | refine br_not ?_
      | refine br_dec (fun _ => ?_) (fun _ => ?_)
      | refine br_beq (fun _ => ?_) (fun _ => ?_)
      | refine br_bne (fun _ => ?_) (fun _ => ?_)
      | refine br_holds (fun _ => ?_) (fun _ => ?_)
      | refine ⟨PreOk.mk ?_ rfl, ?_⟩
      | refine ⟨idx_ok _ _ _ rfl (by omega) (by omega), ?_⟩
      | refine ⟨okSh_ok _ _ _ (fun _ => rfl) (by omega) (by omega), ?_⟩
      | refine ⟨okSh_okD _ _ _ _ (fun _ => rfl) (by omega) (by omega), ?_⟩
      | refine ⟨aload_ok _ _ rfl (fun _ => rfl) (by omega) (by omega), ?_⟩
      | refine ⟨aload_okD _ _ _ rfl (fun _ => rfl) (by omega) (by omega), ?_⟩
      | refine ⟨astore_ok (by assumption) rfl (by omega) (by omega) (by decide), ?_⟩
      | refine ⟨app_ok (by assumption) rfl rfl (by simp only [List.length_cons, List.length_nil]; omega), ?_⟩
      | refine need_holds ?_ fun _ => ?_
      | refine all_holds fun y hy => ?_
      | refine ret_leD ?_
    all_goals try (exfalso; omega)
    all_goals try exact idx_ok _ _ _ rfl (by omega) (by omega)
    · exact ⟨all1 _, by omega, by omega, by omega⟩
    · exact trivial
    · subst_vars
      refine RR.le_of_eq ?_
      simp [RR.data, Rc.data, rstep, jumpS, Sta.cells]
noncomputable def v_sBack : Sta × Sta → Sta × List Obs × Int := fun x => backS x.1 x.2
noncomputable def sh_sBack : Sta × List Obs × Int → RR := fun x => rstep x
theorem e_sBack (x : Sta × Sta) : sh_sBack (v_sBack x) = c_sBack.ans x := rfl
/-- seqm.put and touch are run in their callers' places. -/
noncomputable def Z_t : Zo := mkZ Try.prog 200000 [(101, ⟨300000, fun _ => none, fun _ => none⟩)]
noncomputable def Z_step : Zo := mkZ Try.prog 0 [(101, ⟨100000, fun _ => none, fun _ => none⟩), (105, Z_t)]
theorem Z_step_ok : ZOK Try.prog 2 Z_step := zok_mk fun p hp => by
  simp only [List.mem_cons, List.not_mem_nil, or_false] at hp
  rcases hp with rfl | rfl
  · exact zok_none _ _ _
  · exact zok_mk fun p hp => by
      simp only [List.mem_cons, List.not_mem_nil, or_false] at hp
      subst hp
      exact zok_none _ _ _
noncomputable def v_aStill : Sta × Unit → Sta := fun x => x.1
noncomputable def sh_aStill : Sta → RR := fun s => .agg s.fresh
theorem e_aStill (x : Sta × Unit) : sh_aStill (v_aStill x) = c_aStill.ans x := rfl
noncomputable def a_step : FnA := (fnAZ Try.prog Z_step Try.f57 2 []).getD ⟨0, .skip, [], []⟩
noncomputable def s_step : Sp := spT [c_aStill.gfe v_aStill sh_aStill e_aStill, c_sAt.gfe v_sAt sh_sAt e_sAt, c_sVal.gfe v_sVal sh_sVal e_sVal, c_sReg.gfe v_sReg sh_sReg e_sReg, c_sValue.gfe v_sValue sh_sValue e_sValue, c_sAddr.gfe v_sAddr sh_sAddr e_sAddr, c_sWay.gfe v_sWay sh_sWay e_sWay, c_sJump.gfe v_sJump sh_sJump e_sJump, c_sBack.gfe v_sBack sh_sBack e_sBack]
theorem s_step_sound : s_step.sound Try.prog := spT_sound fun e he => by
  simp only [List.mem_cons, List.not_mem_nil, or_false] at he
  rcases he with rfl | rfl | rfl | rfl | rfl | rfl | rfl | rfl | rfl
  · exact FT.gfe_good c_aStill_good
  · exact FT.gfe_good c_sAt_good
  · exact FT.gfe_good c_sVal_good
  · exact FT.gfe_good c_sReg_good
  · exact FT.gfe_good c_sValue_good
  · exact FT.gfe_good c_sAddr_good
  · exact FT.gfe_good c_sWay_good
  · exact FT.gfe_good c_sJump_good
  · exact FT.gfe_good c_sBack_good
set_option maxRecDepth 100000 in
theorem t_step (p : Prg) (s : Sta) : a_step.start s_step 400 [ap p, as_ s] =
(VC.need (PreOk c_aStill (Sta.of (Sta.cells s), ()) [A.agg (Sta.cells s)])
(VC.all (v_aStill (Sta.of (Sta.cells s), ())) fun (y2 : Sta) =>
(VC.need (PreOk c_aStill (Sta.of (Sta.cells s), ()) [A.agg (Sta.cells s)])
(VC.all (v_aStill (Sta.of (Sta.cells s), ())) fun (y3 : Sta) =>
(VC.need (PreOk c_sAt (Prg.of (Prg.cells p), y3.pc) [A.agg (Prg.cells p), A.c (D.int IntKind.i64 y3.pc)])
(VC.all (v_sAt (Prg.of (Prg.cells p), y3.pc)) fun (y4 : Ins) =>
(VC.br (y4.kind == (1 : Int))
 (VC.need (PreOk c_sVal (Prg.of (Prg.cells p), Sta.of (Sta.cells y3), y4.aR, y4.aN) [A.agg (Prg.cells p), A.agg (Sta.cells y3), A.agg [D.bool y4.aR, D.int IntKind.i64 y4.aN]])
 (VC.all (v_sVal (Prg.of (Prg.cells p), Sta.of (Sta.cells y3), y4.aR, y4.aN)) fun (y5 : Int) =>
 (VC.need (PreOk c_sVal (Prg.of (Prg.cells p), Sta.of (Sta.cells y3), y4.bR, y4.bN) [A.agg (Prg.cells p), A.agg (Sta.cells y3), A.agg [D.bool y4.bR, D.int IntKind.i64 y4.bN]])
 (VC.all (v_sVal (Prg.of (Prg.cells p), Sta.of (Sta.cells y3), y4.bR, y4.bN)) fun (y6 : Int) =>
 (VC.need (PreOk c_sReg (Prg.of (Prg.cells p), Sta.of (Sta.cells y3), y4.d) [A.agg (Prg.cells p), A.agg (Sta.cells y3), A.c (D.int IntKind.i64 y4.d)])
 (VC.all (v_sReg (Prg.of (Prg.cells p), Sta.of (Sta.cells y3), y4.d)) fun (y7 : Int) =>
 (VC.need (PreOk c_sValue (Prg.of (Prg.cells p), Row.of [D.int IntKind.i64 y4.kind, D.int IntKind.i64 y4.op, D.int IntKind.i64 y4.d, D.bool y4.aR, D.int IntKind.i64 y4.aN, D.bool y4.bR, D.int IntKind.i64 y4.bN, D.str y4.name, D.int IntKind.i64 y4.target], y5, y6, y7) [A.agg (Prg.cells p), A.agg [D.int IntKind.i64 y4.kind, D.int IntKind.i64 y4.op, D.int IntKind.i64 y4.d, D.bool y4.aR, D.int IntKind.i64 y4.aN, D.bool y4.bR, D.int IntKind.i64 y4.bN, D.str y4.name, D.int IntKind.i64 y4.target], A.c (D.int IntKind.i64 y5), A.c (D.int IntKind.i64 y6), A.c (D.int IntKind.i64 y7)])
 (VC.all (v_sValue (Prg.of (Prg.cells p), Row.of [D.int IntKind.i64 y4.kind, D.int IntKind.i64 y4.op, D.int IntKind.i64 y4.d, D.bool y4.aR, D.int IntKind.i64 y4.aN, D.bool y4.bR, D.int IntKind.i64 y4.bN, D.str y4.name, D.int IntKind.i64 y4.target], y5, y6, y7)) fun (y8 : Int) =>
 (VC.br (decide ((0 : Int) ≤ y4.d))
  (VC.br (decide (y4.d < (4 : Int)))
   (VC.br (decide (y4.d = (0 : Int)))
    (VC.ret (some (RR.tup [Sum.inr [Rc.d (D.int IntKind.i64 y8), Rc.d (D.int IntKind.i64 y3.r1), Rc.d (D.int IntKind.i64 y3.r2), Rc.d (D.int IntKind.i64 y3.r3), Rc.new (1 : Nat) (rowsOn y3.mem), Rc.new (1 : Nat) (rowsOn y3.stack), Rc.d (D.int IntKind.i64 (IntKind.wrap IntKind.i64 (y3.pc + (1 : Int))))], Sum.inl Rc.nil, Sum.inl (Rc.d (D.int IntKind.i64 (0 : Int)))])))
    (VC.br (decide (y4.d = (1 : Int)))
     (VC.ret (some (RR.tup [Sum.inr [Rc.d (D.int IntKind.i64 y3.r0), Rc.d (D.int IntKind.i64 y8), Rc.d (D.int IntKind.i64 y3.r2), Rc.d (D.int IntKind.i64 y3.r3), Rc.new (1 : Nat) (rowsOn y3.mem), Rc.new (1 : Nat) (rowsOn y3.stack), Rc.d (D.int IntKind.i64 (IntKind.wrap IntKind.i64 (y3.pc + (1 : Int))))], Sum.inl Rc.nil, Sum.inl (Rc.d (D.int IntKind.i64 (0 : Int)))])))
     (VC.br (decide (y4.d = (2 : Int)))
      (VC.ret (some (RR.tup [Sum.inr [Rc.d (D.int IntKind.i64 y3.r0), Rc.d (D.int IntKind.i64 y3.r1), Rc.d (D.int IntKind.i64 y8), Rc.d (D.int IntKind.i64 y3.r3), Rc.new (1 : Nat) (rowsOn y3.mem), Rc.new (1 : Nat) (rowsOn y3.stack), Rc.d (D.int IntKind.i64 (IntKind.wrap IntKind.i64 (y3.pc + (1 : Int))))], Sum.inl Rc.nil, Sum.inl (Rc.d (D.int IntKind.i64 (0 : Int)))])))
      (VC.br (decide (y4.d = (3 : Int)))
       (VC.ret (some (RR.tup [Sum.inr [Rc.d (D.int IntKind.i64 y3.r0), Rc.d (D.int IntKind.i64 y3.r1), Rc.d (D.int IntKind.i64 y3.r2), Rc.d (D.int IntKind.i64 y8), Rc.new (1 : Nat) (rowsOn y3.mem), Rc.new (1 : Nat) (rowsOn y3.stack), Rc.d (D.int IntKind.i64 (IntKind.wrap IntKind.i64 (y3.pc + (1 : Int))))], Sum.inl Rc.nil, Sum.inl (Rc.d (D.int IntKind.i64 (0 : Int)))])))
       VC.ff))))
   (VC.ret (some (RR.tup [Sum.inr [Rc.d (D.int IntKind.i64 y3.r0), Rc.d (D.int IntKind.i64 y3.r1), Rc.d (D.int IntKind.i64 y3.r2), Rc.d (D.int IntKind.i64 y3.r3), Rc.new (1 : Nat) (rowsOn y3.mem), Rc.new (1 : Nat) (rowsOn y3.stack), Rc.d (D.int IntKind.i64 (IntKind.wrap IntKind.i64 (y3.pc + (1 : Int))))], Sum.inl Rc.nil, Sum.inl (Rc.d (D.int IntKind.i64 (0 : Int)))]))))
  (VC.ret (some (RR.tup [Sum.inr [Rc.d (D.int IntKind.i64 y3.r0), Rc.d (D.int IntKind.i64 y3.r1), Rc.d (D.int IntKind.i64 y3.r2), Rc.d (D.int IntKind.i64 y3.r3), Rc.new (1 : Nat) (rowsOn y3.mem), Rc.new (1 : Nat) (rowsOn y3.stack), Rc.d (D.int IntKind.i64 (IntKind.wrap IntKind.i64 (y3.pc + (1 : Int))))], Sum.inl Rc.nil, Sum.inl (Rc.d (D.int IntKind.i64 (0 : Int)))]))))))))))))
 (VC.br (y4.kind == (4 : Int))
  (VC.need (PreOk c_sVal (Prg.of (Prg.cells p), Sta.of (Sta.cells y3), y4.aR, y4.aN) [A.agg (Prg.cells p), A.agg (Sta.cells y3), A.agg [D.bool y4.aR, D.int IntKind.i64 y4.aN]])
  (VC.all (v_sVal (Prg.of (Prg.cells p), Sta.of (Sta.cells y3), y4.aR, y4.aN)) fun (y5 : Int) =>
  (VC.need (PreOk c_sVal (Prg.of (Prg.cells p), Sta.of (Sta.cells y3), y4.bR, y4.bN) [A.agg (Prg.cells p), A.agg (Sta.cells y3), A.agg [D.bool y4.bR, D.int IntKind.i64 y4.bN]])
  (VC.all (v_sVal (Prg.of (Prg.cells p), Sta.of (Sta.cells y3), y4.bR, y4.bN)) fun (y6 : Int) =>
  (VC.need (PreOk c_sReg (Prg.of (Prg.cells p), Sta.of (Sta.cells y3), y4.d) [A.agg (Prg.cells p), A.agg (Sta.cells y3), A.c (D.int IntKind.i64 y4.d)])
  (VC.all (v_sReg (Prg.of (Prg.cells p), Sta.of (Sta.cells y3), y4.d)) fun (y7 : Int) =>
  (VC.need (PreOk c_sValue (Prg.of (Prg.cells p), Row.of [D.int IntKind.i64 y4.kind, D.int IntKind.i64 y4.op, D.int IntKind.i64 y4.d, D.bool y4.aR, D.int IntKind.i64 y4.aN, D.bool y4.bR, D.int IntKind.i64 y4.bN, D.str y4.name, D.int IntKind.i64 y4.target], y5, y6, y7) [A.agg (Prg.cells p), A.agg [D.int IntKind.i64 y4.kind, D.int IntKind.i64 y4.op, D.int IntKind.i64 y4.d, D.bool y4.aR, D.int IntKind.i64 y4.aN, D.bool y4.bR, D.int IntKind.i64 y4.bN, D.str y4.name, D.int IntKind.i64 y4.target], A.c (D.int IntKind.i64 y5), A.c (D.int IntKind.i64 y6), A.c (D.int IntKind.i64 y7)])
  (VC.all (v_sValue (Prg.of (Prg.cells p), Row.of [D.int IntKind.i64 y4.kind, D.int IntKind.i64 y4.op, D.int IntKind.i64 y4.d, D.bool y4.aR, D.int IntKind.i64 y4.aN, D.bool y4.bR, D.int IntKind.i64 y4.bN, D.str y4.name, D.int IntKind.i64 y4.target], y5, y6, y7)) fun (y8 : Int) =>
  (VC.br (decide ((0 : Int) ≤ y4.d))
   (VC.br (decide (y4.d < (4 : Int)))
    (VC.br (decide (y4.d = (0 : Int)))
     (VC.ret (some (RR.tup [Sum.inr [Rc.d (D.int IntKind.i64 y8), Rc.d (D.int IntKind.i64 y3.r1), Rc.d (D.int IntKind.i64 y3.r2), Rc.d (D.int IntKind.i64 y3.r3), Rc.new (1 : Nat) (rowsOn y3.mem), Rc.new (1 : Nat) (rowsOn y3.stack), Rc.d (D.int IntKind.i64 (IntKind.wrap IntKind.i64 (y3.pc + (1 : Int))))], Sum.inl Rc.nil, Sum.inl (Rc.d (D.int IntKind.i64 (0 : Int)))])))
     (VC.br (decide (y4.d = (1 : Int)))
      (VC.ret (some (RR.tup [Sum.inr [Rc.d (D.int IntKind.i64 y3.r0), Rc.d (D.int IntKind.i64 y8), Rc.d (D.int IntKind.i64 y3.r2), Rc.d (D.int IntKind.i64 y3.r3), Rc.new (1 : Nat) (rowsOn y3.mem), Rc.new (1 : Nat) (rowsOn y3.stack), Rc.d (D.int IntKind.i64 (IntKind.wrap IntKind.i64 (y3.pc + (1 : Int))))], Sum.inl Rc.nil, Sum.inl (Rc.d (D.int IntKind.i64 (0 : Int)))])))
      (VC.br (decide (y4.d = (2 : Int)))
       (VC.ret (some (RR.tup [Sum.inr [Rc.d (D.int IntKind.i64 y3.r0), Rc.d (D.int IntKind.i64 y3.r1), Rc.d (D.int IntKind.i64 y8), Rc.d (D.int IntKind.i64 y3.r3), Rc.new (1 : Nat) (rowsOn y3.mem), Rc.new (1 : Nat) (rowsOn y3.stack), Rc.d (D.int IntKind.i64 (IntKind.wrap IntKind.i64 (y3.pc + (1 : Int))))], Sum.inl Rc.nil, Sum.inl (Rc.d (D.int IntKind.i64 (0 : Int)))])))
       (VC.br (decide (y4.d = (3 : Int)))
        (VC.ret (some (RR.tup [Sum.inr [Rc.d (D.int IntKind.i64 y3.r0), Rc.d (D.int IntKind.i64 y3.r1), Rc.d (D.int IntKind.i64 y3.r2), Rc.d (D.int IntKind.i64 y8), Rc.new (1 : Nat) (rowsOn y3.mem), Rc.new (1 : Nat) (rowsOn y3.stack), Rc.d (D.int IntKind.i64 (IntKind.wrap IntKind.i64 (y3.pc + (1 : Int))))], Sum.inl Rc.nil, Sum.inl (Rc.d (D.int IntKind.i64 (0 : Int)))])))
        VC.ff))))
    (VC.ret (some (RR.tup [Sum.inr [Rc.d (D.int IntKind.i64 y3.r0), Rc.d (D.int IntKind.i64 y3.r1), Rc.d (D.int IntKind.i64 y3.r2), Rc.d (D.int IntKind.i64 y3.r3), Rc.new (1 : Nat) (rowsOn y3.mem), Rc.new (1 : Nat) (rowsOn y3.stack), Rc.d (D.int IntKind.i64 (IntKind.wrap IntKind.i64 (y3.pc + (1 : Int))))], Sum.inl Rc.nil, Sum.inl (Rc.d (D.int IntKind.i64 (0 : Int)))]))))
   (VC.ret (some (RR.tup [Sum.inr [Rc.d (D.int IntKind.i64 y3.r0), Rc.d (D.int IntKind.i64 y3.r1), Rc.d (D.int IntKind.i64 y3.r2), Rc.d (D.int IntKind.i64 y3.r3), Rc.new (1 : Nat) (rowsOn y3.mem), Rc.new (1 : Nat) (rowsOn y3.stack), Rc.d (D.int IntKind.i64 (IntKind.wrap IntKind.i64 (y3.pc + (1 : Int))))], Sum.inl Rc.nil, Sum.inl (Rc.d (D.int IntKind.i64 (0 : Int)))]))))))))))))
  (VC.br (y4.kind == (2 : Int))
   (VC.need (PreOk c_sVal (Prg.of (Prg.cells p), Sta.of (Sta.cells y3), y4.aR, y4.aN) [A.agg (Prg.cells p), A.agg (Sta.cells y3), A.agg [D.bool y4.aR, D.int IntKind.i64 y4.aN]])
   (VC.all (v_sVal (Prg.of (Prg.cells p), Sta.of (Sta.cells y3), y4.aR, y4.aN)) fun (y5 : Int) =>
   (VC.need (PreOk c_sVal (Prg.of (Prg.cells p), Sta.of (Sta.cells y3), y4.bR, y4.bN) [A.agg (Prg.cells p), A.agg (Sta.cells y3), A.agg [D.bool y4.bR, D.int IntKind.i64 y4.bN]])
   (VC.all (v_sVal (Prg.of (Prg.cells p), Sta.of (Sta.cells y3), y4.bR, y4.bN)) fun (y6 : Int) =>
   (VC.need (PreOk c_sAddr (Prg.of (Prg.cells p), y5, y6) [A.agg (Prg.cells p), A.c (D.int IntKind.i64 y5), A.c (D.int IntKind.i64 y6)])
   (VC.all ((maskS p.w (y5 + y6), decide (maskS p.w (y5 + y6) < cellsS (listOf PMem (rowsOn p.mems))))) fun (y7 : Int × Bool) =>
   (VC.br (!y7.snd)
    (VC.ret (some (RR.tup [Sum.inr [Rc.d (D.int IntKind.i64 y2.r0), Rc.d (D.int IntKind.i64 y2.r1), Rc.d (D.int IntKind.i64 y2.r2), Rc.d (D.int IntKind.i64 y2.r3), Rc.new (1 : Nat) (rowsOn y2.mem), Rc.new (1 : Nat) (rowsOn y2.stack), Rc.d (D.int IntKind.i64 y2.pc)], Sum.inl Rc.nil, Sum.inl (Rc.d (D.int IntKind.i64 (2 : Int)))])))
    (VC.br (decide ((↑(List.length (rowsOn y3.mem)) : Int) ≤ y7.fst))
     (VC.ret (some (RR.tup [Sum.inr [Rc.d (D.int IntKind.i64 y2.r0), Rc.d (D.int IntKind.i64 y2.r1), Rc.d (D.int IntKind.i64 y2.r2), Rc.d (D.int IntKind.i64 y2.r3), Rc.new (1 : Nat) (rowsOn y2.mem), Rc.new (1 : Nat) (rowsOn y2.stack), Rc.d (D.int IntKind.i64 y2.pc)], Sum.inl Rc.nil, Sum.inl (Rc.d (D.int IntKind.i64 (2 : Int)))])))
     (VC.br (y4.kind == (2 : Int))
      (VC.need ((0 : Int) ≤ y7.fst ∧ y7.fst < (↑(List.length (rowsOn y3.mem)) : Int))
      (VC.need (Int.toNat y7.fst < List.length (rowsOn y3.mem) ∧ List.length (rowAt (rowsOn y3.mem) (Int.toNat y7.fst)) = (1 : Nat) ∧ okSh [Kd.int IntKind.i64] (List.drop (0 : Nat) (rowAt (rowsOn y3.mem) (Int.toNat y7.fst))))
      (VC.br (decide ((0 : Int) ≤ y4.d))
       (VC.br (decide (y4.d < (4 : Int)))
        (VC.br (decide (y4.d = (0 : Int)))
         (VC.ret (some (RR.tup [Sum.inr [Rc.d (D.int IntKind.i64 (asInt (List.getD (List.drop (0 : Nat) (rowAt (rowsOn y3.mem) (Int.toNat y7.fst))) (0 : Nat) D.nilp))), Rc.d (D.int IntKind.i64 y3.r1), Rc.d (D.int IntKind.i64 y3.r2), Rc.d (D.int IntKind.i64 y3.r3), Rc.new (1 : Nat) (rowsOn y3.mem), Rc.new (1 : Nat) (rowsOn y3.stack), Rc.d (D.int IntKind.i64 (IntKind.wrap IntKind.i64 (y3.pc + (1 : Int))))], Sum.inl (Rc.new (2 : Nat) [[D.int IntKind.i64 (1 : Int), D.int IntKind.i64 y7.fst]]), Sum.inl (Rc.d (D.int IntKind.i64 (0 : Int)))])))
         (VC.br (decide (y4.d = (1 : Int)))
          (VC.ret (some (RR.tup [Sum.inr [Rc.d (D.int IntKind.i64 y3.r0), Rc.d (D.int IntKind.i64 (asInt (List.getD (List.drop (0 : Nat) (rowAt (rowsOn y3.mem) (Int.toNat y7.fst))) (0 : Nat) D.nilp))), Rc.d (D.int IntKind.i64 y3.r2), Rc.d (D.int IntKind.i64 y3.r3), Rc.new (1 : Nat) (rowsOn y3.mem), Rc.new (1 : Nat) (rowsOn y3.stack), Rc.d (D.int IntKind.i64 (IntKind.wrap IntKind.i64 (y3.pc + (1 : Int))))], Sum.inl (Rc.new (2 : Nat) [[D.int IntKind.i64 (1 : Int), D.int IntKind.i64 y7.fst]]), Sum.inl (Rc.d (D.int IntKind.i64 (0 : Int)))])))
          (VC.br (decide (y4.d = (2 : Int)))
           (VC.ret (some (RR.tup [Sum.inr [Rc.d (D.int IntKind.i64 y3.r0), Rc.d (D.int IntKind.i64 y3.r1), Rc.d (D.int IntKind.i64 (asInt (List.getD (List.drop (0 : Nat) (rowAt (rowsOn y3.mem) (Int.toNat y7.fst))) (0 : Nat) D.nilp))), Rc.d (D.int IntKind.i64 y3.r3), Rc.new (1 : Nat) (rowsOn y3.mem), Rc.new (1 : Nat) (rowsOn y3.stack), Rc.d (D.int IntKind.i64 (IntKind.wrap IntKind.i64 (y3.pc + (1 : Int))))], Sum.inl (Rc.new (2 : Nat) [[D.int IntKind.i64 (1 : Int), D.int IntKind.i64 y7.fst]]), Sum.inl (Rc.d (D.int IntKind.i64 (0 : Int)))])))
           (VC.br (decide (y4.d = (3 : Int)))
            (VC.ret (some (RR.tup [Sum.inr [Rc.d (D.int IntKind.i64 y3.r0), Rc.d (D.int IntKind.i64 y3.r1), Rc.d (D.int IntKind.i64 y3.r2), Rc.d (D.int IntKind.i64 (asInt (List.getD (List.drop (0 : Nat) (rowAt (rowsOn y3.mem) (Int.toNat y7.fst))) (0 : Nat) D.nilp))), Rc.new (1 : Nat) (rowsOn y3.mem), Rc.new (1 : Nat) (rowsOn y3.stack), Rc.d (D.int IntKind.i64 (IntKind.wrap IntKind.i64 (y3.pc + (1 : Int))))], Sum.inl (Rc.new (2 : Nat) [[D.int IntKind.i64 (1 : Int), D.int IntKind.i64 y7.fst]]), Sum.inl (Rc.d (D.int IntKind.i64 (0 : Int)))])))
            VC.ff))))
        (VC.ret (some (RR.tup [Sum.inr [Rc.d (D.int IntKind.i64 y3.r0), Rc.d (D.int IntKind.i64 y3.r1), Rc.d (D.int IntKind.i64 y3.r2), Rc.d (D.int IntKind.i64 y3.r3), Rc.new (1 : Nat) (rowsOn y3.mem), Rc.new (1 : Nat) (rowsOn y3.stack), Rc.d (D.int IntKind.i64 (IntKind.wrap IntKind.i64 (y3.pc + (1 : Int))))], Sum.inl (Rc.new (2 : Nat) [[D.int IntKind.i64 (1 : Int), D.int IntKind.i64 y7.fst]]), Sum.inl (Rc.d (D.int IntKind.i64 (0 : Int)))]))))
       (VC.ret (some (RR.tup [Sum.inr [Rc.d (D.int IntKind.i64 y3.r0), Rc.d (D.int IntKind.i64 y3.r1), Rc.d (D.int IntKind.i64 y3.r2), Rc.d (D.int IntKind.i64 y3.r3), Rc.new (1 : Nat) (rowsOn y3.mem), Rc.new (1 : Nat) (rowsOn y3.stack), Rc.d (D.int IntKind.i64 (IntKind.wrap IntKind.i64 (y3.pc + (1 : Int))))], Sum.inl (Rc.new (2 : Nat) [[D.int IntKind.i64 (1 : Int), D.int IntKind.i64 y7.fst]]), Sum.inl (Rc.d (D.int IntKind.i64 (0 : Int)))]))))))
      (VC.need (PreOk c_sReg (Prg.of (Prg.cells p), Sta.of [D.int IntKind.i64 y3.r0, D.int IntKind.i64 y3.r1, D.int IntKind.i64 y3.r2, D.int IntKind.i64 y3.r3, D.sl (rowsOn y3.mem), D.sl (rowsOn y3.stack), D.int IntKind.i64 (IntKind.wrap IntKind.i64 (y3.pc + (1 : Int)))], y4.d) [A.agg (Prg.cells p), A.agg [D.int IntKind.i64 y3.r0, D.int IntKind.i64 y3.r1, D.int IntKind.i64 y3.r2, D.int IntKind.i64 y3.r3, D.sl (rowsOn y3.mem), D.sl (rowsOn y3.stack), D.int IntKind.i64 (IntKind.wrap IntKind.i64 (y3.pc + (1 : Int)))], A.c (D.int IntKind.i64 y4.d)])
      (VC.all (v_sReg (Prg.of (Prg.cells p), Sta.of [D.int IntKind.i64 y3.r0, D.int IntKind.i64 y3.r1, D.int IntKind.i64 y3.r2, D.int IntKind.i64 y3.r3, D.sl (rowsOn y3.mem), D.sl (rowsOn y3.stack), D.int IntKind.i64 (IntKind.wrap IntKind.i64 (y3.pc + (1 : Int)))], y4.d)) fun (y8 : Int) =>
      (VC.need ((0 : Int) ≤ y7.fst ∧ y7.fst < (↑(List.length (rowsOn y3.mem)) : Int))
      (VC.need (Int.toNat y7.fst < List.length (rowsOn y3.mem) ∧ List.length (rowAt (rowsOn y3.mem) (Int.toNat y7.fst)) = (1 : Nat) ∧ (1 : Nat) ≤ (1 : Nat))
      (VC.ret (some (RR.tup [Sum.inr [Rc.d (D.int IntKind.i64 y3.r0), Rc.d (D.int IntKind.i64 y3.r1), Rc.d (D.int IntKind.i64 y3.r2), Rc.d (D.int IntKind.i64 y3.r3), Rc.new (1 : Nat) (List.set (rowsOn y3.mem) (Int.toNat y7.fst) (splice (rowAt (rowsOn y3.mem) (Int.toNat y7.fst)) (0 : Nat) [D.int IntKind.i64 y8])), Rc.new (1 : Nat) (rowsOn y3.stack), Rc.d (D.int IntKind.i64 (IntKind.wrap IntKind.i64 (y3.pc + (1 : Int))))], Sum.inl (Rc.new (2 : Nat) [[D.int IntKind.i64 (2 : Int), D.int IntKind.i64 y7.fst]]), Sum.inl (Rc.d (D.int IntKind.i64 (0 : Int)))]))))))))))))))))
   (VC.br (y4.kind == (3 : Int))
    (VC.need (PreOk c_sVal (Prg.of (Prg.cells p), Sta.of (Sta.cells y3), y4.aR, y4.aN) [A.agg (Prg.cells p), A.agg (Sta.cells y3), A.agg [D.bool y4.aR, D.int IntKind.i64 y4.aN]])
    (VC.all (v_sVal (Prg.of (Prg.cells p), Sta.of (Sta.cells y3), y4.aR, y4.aN)) fun (y5 : Int) =>
    (VC.need (PreOk c_sVal (Prg.of (Prg.cells p), Sta.of (Sta.cells y3), y4.bR, y4.bN) [A.agg (Prg.cells p), A.agg (Sta.cells y3), A.agg [D.bool y4.bR, D.int IntKind.i64 y4.bN]])
    (VC.all (v_sVal (Prg.of (Prg.cells p), Sta.of (Sta.cells y3), y4.bR, y4.bN)) fun (y6 : Int) =>
    (VC.need (PreOk c_sAddr (Prg.of (Prg.cells p), y5, y6) [A.agg (Prg.cells p), A.c (D.int IntKind.i64 y5), A.c (D.int IntKind.i64 y6)])
    (VC.all ((maskS p.w (y5 + y6), decide (maskS p.w (y5 + y6) < cellsS (listOf PMem (rowsOn p.mems))))) fun (y7 : Int × Bool) =>
    (VC.br (!y7.snd)
     (VC.ret (some (RR.tup [Sum.inr [Rc.d (D.int IntKind.i64 y2.r0), Rc.d (D.int IntKind.i64 y2.r1), Rc.d (D.int IntKind.i64 y2.r2), Rc.d (D.int IntKind.i64 y2.r3), Rc.new (1 : Nat) (rowsOn y2.mem), Rc.new (1 : Nat) (rowsOn y2.stack), Rc.d (D.int IntKind.i64 y2.pc)], Sum.inl Rc.nil, Sum.inl (Rc.d (D.int IntKind.i64 (2 : Int)))])))
     (VC.br (decide ((↑(List.length (rowsOn y3.mem)) : Int) ≤ y7.fst))
      (VC.ret (some (RR.tup [Sum.inr [Rc.d (D.int IntKind.i64 y2.r0), Rc.d (D.int IntKind.i64 y2.r1), Rc.d (D.int IntKind.i64 y2.r2), Rc.d (D.int IntKind.i64 y2.r3), Rc.new (1 : Nat) (rowsOn y2.mem), Rc.new (1 : Nat) (rowsOn y2.stack), Rc.d (D.int IntKind.i64 y2.pc)], Sum.inl Rc.nil, Sum.inl (Rc.d (D.int IntKind.i64 (2 : Int)))])))
      (VC.br (y4.kind == (2 : Int))
       (VC.need ((0 : Int) ≤ y7.fst ∧ y7.fst < (↑(List.length (rowsOn y3.mem)) : Int))
       (VC.need (Int.toNat y7.fst < List.length (rowsOn y3.mem) ∧ List.length (rowAt (rowsOn y3.mem) (Int.toNat y7.fst)) = (1 : Nat) ∧ okSh [Kd.int IntKind.i64] (List.drop (0 : Nat) (rowAt (rowsOn y3.mem) (Int.toNat y7.fst))))
       (VC.br (decide ((0 : Int) ≤ y4.d))
        (VC.br (decide (y4.d < (4 : Int)))
         (VC.br (decide (y4.d = (0 : Int)))
          (VC.ret (some (RR.tup [Sum.inr [Rc.d (D.int IntKind.i64 (asInt (List.getD (List.drop (0 : Nat) (rowAt (rowsOn y3.mem) (Int.toNat y7.fst))) (0 : Nat) D.nilp))), Rc.d (D.int IntKind.i64 y3.r1), Rc.d (D.int IntKind.i64 y3.r2), Rc.d (D.int IntKind.i64 y3.r3), Rc.new (1 : Nat) (rowsOn y3.mem), Rc.new (1 : Nat) (rowsOn y3.stack), Rc.d (D.int IntKind.i64 (IntKind.wrap IntKind.i64 (y3.pc + (1 : Int))))], Sum.inl (Rc.new (2 : Nat) [[D.int IntKind.i64 (1 : Int), D.int IntKind.i64 y7.fst]]), Sum.inl (Rc.d (D.int IntKind.i64 (0 : Int)))])))
          (VC.br (decide (y4.d = (1 : Int)))
           (VC.ret (some (RR.tup [Sum.inr [Rc.d (D.int IntKind.i64 y3.r0), Rc.d (D.int IntKind.i64 (asInt (List.getD (List.drop (0 : Nat) (rowAt (rowsOn y3.mem) (Int.toNat y7.fst))) (0 : Nat) D.nilp))), Rc.d (D.int IntKind.i64 y3.r2), Rc.d (D.int IntKind.i64 y3.r3), Rc.new (1 : Nat) (rowsOn y3.mem), Rc.new (1 : Nat) (rowsOn y3.stack), Rc.d (D.int IntKind.i64 (IntKind.wrap IntKind.i64 (y3.pc + (1 : Int))))], Sum.inl (Rc.new (2 : Nat) [[D.int IntKind.i64 (1 : Int), D.int IntKind.i64 y7.fst]]), Sum.inl (Rc.d (D.int IntKind.i64 (0 : Int)))])))
           (VC.br (decide (y4.d = (2 : Int)))
            (VC.ret (some (RR.tup [Sum.inr [Rc.d (D.int IntKind.i64 y3.r0), Rc.d (D.int IntKind.i64 y3.r1), Rc.d (D.int IntKind.i64 (asInt (List.getD (List.drop (0 : Nat) (rowAt (rowsOn y3.mem) (Int.toNat y7.fst))) (0 : Nat) D.nilp))), Rc.d (D.int IntKind.i64 y3.r3), Rc.new (1 : Nat) (rowsOn y3.mem), Rc.new (1 : Nat) (rowsOn y3.stack), Rc.d (D.int IntKind.i64 (IntKind.wrap IntKind.i64 (y3.pc + (1 : Int))))], Sum.inl (Rc.new (2 : Nat) [[D.int IntKind.i64 (1 : Int), D.int IntKind.i64 y7.fst]]), Sum.inl (Rc.d (D.int IntKind.i64 (0 : Int)))])))
            (VC.br (decide (y4.d = (3 : Int)))
             (VC.ret (some (RR.tup [Sum.inr [Rc.d (D.int IntKind.i64 y3.r0), Rc.d (D.int IntKind.i64 y3.r1), Rc.d (D.int IntKind.i64 y3.r2), Rc.d (D.int IntKind.i64 (asInt (List.getD (List.drop (0 : Nat) (rowAt (rowsOn y3.mem) (Int.toNat y7.fst))) (0 : Nat) D.nilp))), Rc.new (1 : Nat) (rowsOn y3.mem), Rc.new (1 : Nat) (rowsOn y3.stack), Rc.d (D.int IntKind.i64 (IntKind.wrap IntKind.i64 (y3.pc + (1 : Int))))], Sum.inl (Rc.new (2 : Nat) [[D.int IntKind.i64 (1 : Int), D.int IntKind.i64 y7.fst]]), Sum.inl (Rc.d (D.int IntKind.i64 (0 : Int)))])))
             VC.ff))))
         (VC.ret (some (RR.tup [Sum.inr [Rc.d (D.int IntKind.i64 y3.r0), Rc.d (D.int IntKind.i64 y3.r1), Rc.d (D.int IntKind.i64 y3.r2), Rc.d (D.int IntKind.i64 y3.r3), Rc.new (1 : Nat) (rowsOn y3.mem), Rc.new (1 : Nat) (rowsOn y3.stack), Rc.d (D.int IntKind.i64 (IntKind.wrap IntKind.i64 (y3.pc + (1 : Int))))], Sum.inl (Rc.new (2 : Nat) [[D.int IntKind.i64 (1 : Int), D.int IntKind.i64 y7.fst]]), Sum.inl (Rc.d (D.int IntKind.i64 (0 : Int)))]))))
        (VC.ret (some (RR.tup [Sum.inr [Rc.d (D.int IntKind.i64 y3.r0), Rc.d (D.int IntKind.i64 y3.r1), Rc.d (D.int IntKind.i64 y3.r2), Rc.d (D.int IntKind.i64 y3.r3), Rc.new (1 : Nat) (rowsOn y3.mem), Rc.new (1 : Nat) (rowsOn y3.stack), Rc.d (D.int IntKind.i64 (IntKind.wrap IntKind.i64 (y3.pc + (1 : Int))))], Sum.inl (Rc.new (2 : Nat) [[D.int IntKind.i64 (1 : Int), D.int IntKind.i64 y7.fst]]), Sum.inl (Rc.d (D.int IntKind.i64 (0 : Int)))]))))))
       (VC.need (PreOk c_sReg (Prg.of (Prg.cells p), Sta.of [D.int IntKind.i64 y3.r0, D.int IntKind.i64 y3.r1, D.int IntKind.i64 y3.r2, D.int IntKind.i64 y3.r3, D.sl (rowsOn y3.mem), D.sl (rowsOn y3.stack), D.int IntKind.i64 (IntKind.wrap IntKind.i64 (y3.pc + (1 : Int)))], y4.d) [A.agg (Prg.cells p), A.agg [D.int IntKind.i64 y3.r0, D.int IntKind.i64 y3.r1, D.int IntKind.i64 y3.r2, D.int IntKind.i64 y3.r3, D.sl (rowsOn y3.mem), D.sl (rowsOn y3.stack), D.int IntKind.i64 (IntKind.wrap IntKind.i64 (y3.pc + (1 : Int)))], A.c (D.int IntKind.i64 y4.d)])
       (VC.all (v_sReg (Prg.of (Prg.cells p), Sta.of [D.int IntKind.i64 y3.r0, D.int IntKind.i64 y3.r1, D.int IntKind.i64 y3.r2, D.int IntKind.i64 y3.r3, D.sl (rowsOn y3.mem), D.sl (rowsOn y3.stack), D.int IntKind.i64 (IntKind.wrap IntKind.i64 (y3.pc + (1 : Int)))], y4.d)) fun (y8 : Int) =>
       (VC.need ((0 : Int) ≤ y7.fst ∧ y7.fst < (↑(List.length (rowsOn y3.mem)) : Int))
       (VC.need (Int.toNat y7.fst < List.length (rowsOn y3.mem) ∧ List.length (rowAt (rowsOn y3.mem) (Int.toNat y7.fst)) = (1 : Nat) ∧ (1 : Nat) ≤ (1 : Nat))
       (VC.ret (some (RR.tup [Sum.inr [Rc.d (D.int IntKind.i64 y3.r0), Rc.d (D.int IntKind.i64 y3.r1), Rc.d (D.int IntKind.i64 y3.r2), Rc.d (D.int IntKind.i64 y3.r3), Rc.new (1 : Nat) (List.set (rowsOn y3.mem) (Int.toNat y7.fst) (splice (rowAt (rowsOn y3.mem) (Int.toNat y7.fst)) (0 : Nat) [D.int IntKind.i64 y8])), Rc.new (1 : Nat) (rowsOn y3.stack), Rc.d (D.int IntKind.i64 (IntKind.wrap IntKind.i64 (y3.pc + (1 : Int))))], Sum.inl (Rc.new (2 : Nat) [[D.int IntKind.i64 (2 : Int), D.int IntKind.i64 y7.fst]]), Sum.inl (Rc.d (D.int IntKind.i64 (0 : Int)))]))))))))))))))))
    (VC.br (y4.kind == (5 : Int))
     (VC.need (PreOk c_sVal (Prg.of (Prg.cells p), Sta.of (Sta.cells y3), y4.aR, y4.aN) [A.agg (Prg.cells p), A.agg (Sta.cells y3), A.agg [D.bool y4.aR, D.int IntKind.i64 y4.aN]])
     (VC.all (v_sVal (Prg.of (Prg.cells p), Sta.of (Sta.cells y3), y4.aR, y4.aN)) fun (y5 : Int) =>
     (VC.need (PreOk c_sVal (Prg.of (Prg.cells p), Sta.of (Sta.cells y3), y4.bR, y4.bN) [A.agg (Prg.cells p), A.agg (Sta.cells y3), A.agg [D.bool y4.bR, D.int IntKind.i64 y4.bN]])
     (VC.all (v_sVal (Prg.of (Prg.cells p), Sta.of (Sta.cells y3), y4.bR, y4.bN)) fun (y6 : Int) =>
     (VC.need (PreOk c_sWay (Prg.of (Prg.cells p), Row.of [D.int IntKind.i64 y4.kind, D.int IntKind.i64 y4.op, D.int IntKind.i64 y4.d, D.bool y4.aR, D.int IntKind.i64 y4.aN, D.bool y4.bR, D.int IntKind.i64 y4.bN, D.str y4.name, D.int IntKind.i64 y4.target], y3.pc, y5, y6) [A.agg (Prg.cells p), A.agg [D.int IntKind.i64 y4.kind, D.int IntKind.i64 y4.op, D.int IntKind.i64 y4.d, D.bool y4.aR, D.int IntKind.i64 y4.aN, D.bool y4.bR, D.int IntKind.i64 y4.bN, D.str y4.name, D.int IntKind.i64 y4.target], A.c (D.int IntKind.i64 y3.pc), A.c (D.int IntKind.i64 y5), A.c (D.int IntKind.i64 y6)])
     (VC.all (v_sWay (Prg.of (Prg.cells p), Row.of [D.int IntKind.i64 y4.kind, D.int IntKind.i64 y4.op, D.int IntKind.i64 y4.d, D.bool y4.aR, D.int IntKind.i64 y4.aN, D.bool y4.bR, D.int IntKind.i64 y4.bN, D.str y4.name, D.int IntKind.i64 y4.target], y3.pc, y5, y6)) fun (y7 : Int) =>
     (VC.need (PreOk c_sJump (Sta.of (Sta.cells y3), y7) [A.agg (Sta.cells y3), A.c (D.int IntKind.i64 y7)])
     (VC.all (({ r0 := y3.r0, r1 := y3.r1, r2 := y3.r2, r3 := y3.r3, mem := listOf Int (rowsOn y3.mem), stack := listOf Int (rowsOn y3.stack), pc := y7 }, [{ kind := (3 : Int), at_ := y7 }], (0 : Int))) fun (y8 : Sta × List Obs × Int) =>
     (VC.ret (some (RR.tup [Sum.inr [Rc.d (D.int IntKind.i64 y8.fst.r0), Rc.d (D.int IntKind.i64 y8.fst.r1), Rc.d (D.int IntKind.i64 y8.fst.r2), Rc.d (D.int IntKind.i64 y8.fst.r3), Rc.d (D.sl (rowsOn y8.fst.mem)), Rc.d (D.sl (rowsOn y8.fst.stack)), Rc.d (D.int IntKind.i64 y8.fst.pc)], Sum.inl (Rc.d (D.sl (rowsOn y8.snd.fst))), Sum.inl (Rc.d (D.int IntKind.i64 y8.snd.snd))])))))))))))
     (VC.br (y4.kind == (7 : Int))
      (VC.need (PreOk c_sVal (Prg.of (Prg.cells p), Sta.of (Sta.cells y3), y4.aR, y4.aN) [A.agg (Prg.cells p), A.agg (Sta.cells y3), A.agg [D.bool y4.aR, D.int IntKind.i64 y4.aN]])
      (VC.all (v_sVal (Prg.of (Prg.cells p), Sta.of (Sta.cells y3), y4.aR, y4.aN)) fun (y5 : Int) =>
      (VC.need (PreOk c_sVal (Prg.of (Prg.cells p), Sta.of (Sta.cells y3), y4.bR, y4.bN) [A.agg (Prg.cells p), A.agg (Sta.cells y3), A.agg [D.bool y4.bR, D.int IntKind.i64 y4.bN]])
      (VC.all (v_sVal (Prg.of (Prg.cells p), Sta.of (Sta.cells y3), y4.bR, y4.bN)) fun (y6 : Int) =>
      (VC.need (PreOk c_sWay (Prg.of (Prg.cells p), Row.of [D.int IntKind.i64 y4.kind, D.int IntKind.i64 y4.op, D.int IntKind.i64 y4.d, D.bool y4.aR, D.int IntKind.i64 y4.aN, D.bool y4.bR, D.int IntKind.i64 y4.bN, D.str y4.name, D.int IntKind.i64 y4.target], y3.pc, y5, y6) [A.agg (Prg.cells p), A.agg [D.int IntKind.i64 y4.kind, D.int IntKind.i64 y4.op, D.int IntKind.i64 y4.d, D.bool y4.aR, D.int IntKind.i64 y4.aN, D.bool y4.bR, D.int IntKind.i64 y4.bN, D.str y4.name, D.int IntKind.i64 y4.target], A.c (D.int IntKind.i64 y3.pc), A.c (D.int IntKind.i64 y5), A.c (D.int IntKind.i64 y6)])
      (VC.all (v_sWay (Prg.of (Prg.cells p), Row.of [D.int IntKind.i64 y4.kind, D.int IntKind.i64 y4.op, D.int IntKind.i64 y4.d, D.bool y4.aR, D.int IntKind.i64 y4.aN, D.bool y4.bR, D.int IntKind.i64 y4.bN, D.str y4.name, D.int IntKind.i64 y4.target], y3.pc, y5, y6)) fun (y7 : Int) =>
      (VC.need (PreOk c_sJump (Sta.of (Sta.cells y3), y7) [A.agg (Sta.cells y3), A.c (D.int IntKind.i64 y7)])
      (VC.all (({ r0 := y3.r0, r1 := y3.r1, r2 := y3.r2, r3 := y3.r3, mem := listOf Int (rowsOn y3.mem), stack := listOf Int (rowsOn y3.stack), pc := y7 }, [{ kind := (3 : Int), at_ := y7 }], (0 : Int))) fun (y8 : Sta × List Obs × Int) =>
      (VC.ret (some (RR.tup [Sum.inr [Rc.d (D.int IntKind.i64 y8.fst.r0), Rc.d (D.int IntKind.i64 y8.fst.r1), Rc.d (D.int IntKind.i64 y8.fst.r2), Rc.d (D.int IntKind.i64 y8.fst.r3), Rc.d (D.sl (rowsOn y8.fst.mem)), Rc.d (D.sl (rowsOn y8.fst.stack)), Rc.d (D.int IntKind.i64 y8.fst.pc)], Sum.inl (Rc.d (D.sl (rowsOn y8.snd.fst))), Sum.inl (Rc.d (D.int IntKind.i64 y8.snd.snd))])))))))))))
      (VC.br (y4.kind == (6 : Int))
       (VC.ret (some (RR.tup [Sum.inr [Rc.d (D.int IntKind.i64 y3.r0), Rc.d (D.int IntKind.i64 y3.r1), Rc.d (D.int IntKind.i64 y3.r2), Rc.d (D.int IntKind.i64 y3.r3), Rc.new (1 : Nat) (rowsOn y3.mem), Rc.new (1 : Nat) (rowsOn y3.stack), Rc.d (D.int IntKind.i64 y4.target)], Sum.inl Rc.nil, Sum.inl (Rc.d (D.int IntKind.i64 (0 : Int)))])))
       (VC.br (y4.kind == (8 : Int))
        (VC.br (decide ((4 : Int) ≤ (↑(List.length (rowsOn y3.stack)) : Int)))
         (VC.ret (some (RR.tup [Sum.inr [Rc.d (D.int IntKind.i64 y2.r0), Rc.d (D.int IntKind.i64 y2.r1), Rc.d (D.int IntKind.i64 y2.r2), Rc.d (D.int IntKind.i64 y2.r3), Rc.new (1 : Nat) (rowsOn y2.mem), Rc.new (1 : Nat) (rowsOn y2.stack), Rc.d (D.int IntKind.i64 y2.pc)], Sum.inl Rc.nil, Sum.inl (Rc.d (D.int IntKind.i64 (2 : Int)))])))
         (VC.need ((List.all [[D.int IntKind.i64 (IntKind.wrap IntKind.i64 (y3.pc + (1 : Int)))]] fun r ↦ List.length r == (1 : Nat)) = true ∧ (List.all (rowsOn y3.stack) fun r ↦ List.length r == (1 : Nat)) = true ∧ (List.length (rowsOn y3.stack) + List.length [[D.int IntKind.i64 (IntKind.wrap IntKind.i64 (y3.pc + (1 : Int)))]] + (100 : Nat)) * (9 : Nat) ≤ (70368744177664 : Nat))
         (VC.ret (some (RR.tup [Sum.inr [Rc.d (D.int IntKind.i64 y3.r0), Rc.d (D.int IntKind.i64 y3.r1), Rc.d (D.int IntKind.i64 y3.r2), Rc.d (D.int IntKind.i64 y3.r3), Rc.new (1 : Nat) (rowsOn y3.mem), Rc.new (1 : Nat) (rowsOn y3.stack ++ [[D.int IntKind.i64 (IntKind.wrap IntKind.i64 (y3.pc + (1 : Int)))]]), Rc.d (D.int IntKind.i64 y4.target)], Sum.inl Rc.nil, Sum.inl (Rc.d (D.int IntKind.i64 (0 : Int)))])))))
        (VC.br (y4.kind == (9 : Int))
         (VC.need (PreOk c_sBack (Sta.of (Sta.cells y3), Sta.of (Sta.cells y2)) [A.agg (Sta.cells y3), A.agg (Sta.cells y2)])
         (VC.all (v_sBack (Sta.of (Sta.cells y3), Sta.of (Sta.cells y2))) fun (y5 : Sta × List Obs × Int) =>
         (VC.ret (some (RR.tup [Sum.inr [Rc.d (D.int IntKind.i64 y5.fst.r0), Rc.d (D.int IntKind.i64 y5.fst.r1), Rc.d (D.int IntKind.i64 y5.fst.r2), Rc.d (D.int IntKind.i64 y5.fst.r3), Rc.d (D.sl (rowsOn y5.fst.mem)), Rc.d (D.sl (rowsOn y5.fst.stack)), Rc.d (D.int IntKind.i64 y5.fst.pc)], Sum.inl (Rc.d (D.sl (rowsOn y5.snd.fst))), Sum.inl (Rc.d (D.int IntKind.i64 y5.snd.snd))])))))
         (VC.br (y4.kind == (10 : Int))
          (VC.ret (some (RR.tup [Sum.inr [Rc.d (D.int IntKind.i64 y3.r0), Rc.d (D.int IntKind.i64 y3.r1), Rc.d (D.int IntKind.i64 y3.r2), Rc.d (D.int IntKind.i64 y3.r3), Rc.new (1 : Nat) (rowsOn y3.mem), Rc.new (1 : Nat) (rowsOn y3.stack), Rc.d (D.int IntKind.i64 (IntKind.wrap IntKind.i64 (y3.pc + (1 : Int))))], Sum.inl Rc.nil, Sum.inl (Rc.d (D.int IntKind.i64 (0 : Int)))])))
          (VC.br (y4.kind == (11 : Int))
           (VC.ret (some (RR.tup [Sum.inr [Rc.d (D.int IntKind.i64 y2.r0), Rc.d (D.int IntKind.i64 y2.r1), Rc.d (D.int IntKind.i64 y2.r2), Rc.d (D.int IntKind.i64 y2.r3), Rc.new (1 : Nat) (rowsOn y2.mem), Rc.new (1 : Nat) (rowsOn y2.stack), Rc.d (D.int IntKind.i64 y2.pc)], Sum.inl Rc.nil, Sum.inl (Rc.d (D.int IntKind.i64 (1 : Int)))])))
           (VC.ret (some (RR.tup [Sum.inr [Rc.d (D.int IntKind.i64 y2.r0), Rc.d (D.int IntKind.i64 y2.r1), Rc.d (D.int IntKind.i64 y2.r2), Rc.d (D.int IntKind.i64 y2.r3), Rc.new (1 : Nat) (rowsOn y2.mem), Rc.new (1 : Nat) (rowsOn y2.stack), Rc.d (D.int IntKind.i64 y2.pc)], Sum.inl Rc.nil, Sum.inl (Rc.d (D.int IntKind.i64 (2 : Int)))])))))))))))))))))))) := by kernel_rfl
theorem obs_row (k a : Int) : rowsOn [(⟨k, a⟩ : Obs)] = [[.int .i64 k, .int .i64 a]] := rfl
theorem ins_eta (i : Ins) : (Row.of [D.int .i64 i.kind, .int .i64 i.op, .int .i64 i.d, .bool i.aR, .int .i64 i.aN, .bool i.bR, .int .i64 i.bN, .str i.name, .int .i64 i.target] : Ins) = i := Row.of_row i
theorem valS_range (w : Int) (s : Sta) (r : Bool) (n : Int) : 0 ≤ valS w s r n ∧ valS w s r n < 65536 := by
  unfold valS
  split
  · exact maskS_range _ _
  · exact maskS_range _ _
theorem setReg_out (s : Sta) {r : Int} (n : Int) (h : r < 0 ∨ 4 ≤ r) : s.setReg r n = s := by
  unfold Sta.setReg
  rw [if_neg (by omega), if_neg (by omega), if_neg (by omega), if_neg (by omega)]
theorem at_range {l : List Ins} {pc : Int} (h : (atS l pc).kind ≠ 12) : 0 ≤ pc ∧ pc < l.length := by
  unfold atS at h
  split at h
  · exact absurd rfl h
  · omega
def c_step : FT (Prg × Sta) := ⟨57, fun x => [ap x.1, as_ x.2], rdPS, fun x => Mems x.1.mems ∧ SmallS x.2 ∧ x.1.ins.length ≤ 1000000, fun x => rstep (stepS x.1 x.2), true, fun x => by simp [ap, as_, rdPS]⟩
theorem c_step_good : c_step.fe.Good Try.prog := by
  refine FT.good c_step ⟨Try.f57, by kernel_rfl, by decide +kernel, by kernel_rfl⟩ (fun ⟨p, s⟩ => by first | rfl | simp [c_step, rrRef, rins, rnum, rby, rss, rnewI, rnewE, rstab, rplaces, ri, rb, rib, rstep, Sta.fresh]) fun ⟨p, s⟩ hp => ?_
  refine acalls_leDZ Z_step_ok s_step_sound (fn := Try.f57) (a := a_step) (nargs := 2) (tbl := []) (by kernel_rfl) (by kernel_rfl) rfl (m := 400) ?_
  show VC.holds _ _ _ (a_step.start s_step 400 [ap p, as_ s])
  rw [t_step]
  try simp only [asRows_sl, asInt_int, asBool_bool, asStr_str, listOf_rowsOn, List.drop_zero, Prg.eta, Sta.eta, rowsOn_length, getD_drop, Nat.reduceAdd, rd_int, rd_PMem_name, rd_PMem_secret, rd_PMem_n, rd_PLabel_name, rd_PLabel_at_, rd_Ins_kind, rd_Ins_op, rd_Ins_d, rd_Ins_aR, rd_Ins_aN, rd_Ins_bR, rd_Ins_bN, rd_Ins_name, rd_Ins_target, rd_Ent_pc, rd_Ent_val, rd_Ent_addr, rd_Ent_fro, rd_Ent_next, rd_Ent_done, rd_Ent_known, rd_Ent_fault, rd_Place_reg, rd_Place_n, rd_Place_secret, rd_Obs_kind, rd_Obs_at_, rd_Dir_kind, rd_Dir_n, Prg.of_cells, Sta.of_cells]
  try simp only [c_step] at hp
  obtain ⟨hm, hs, hl⟩ := hp
  have e : c_step.ans (p, s) = rstep (stepS p s) := rfl
  rw [e]
  refine ⟨PreOk.mk hs rfl, all_holds fun y2 e2 => ⟨PreOk.mk hs rfl, all_holds fun y3 e3 => ?_⟩⟩
  replace e2 : s = y2 := e2.symm
  replace e3 : s = y3 := e3.symm
  subst e2
  subst e3
  refine ⟨PreOk.mk trivial rfl, all_holds fun i e4 => ?_⟩
  replace e4 : i = atS p.ins s.pc := e4
  have hr : i.kind ≠ 12 → IntKind.wrap .i64 (s.pc + 1) = s.pc + 1 := fun h => by
    have := at_range (l := p.ins) (pc := s.pc) (by rw [← e4]; exact h)
    exact wrap_small _ (by omega) (by omega)
  repeat' first
    | refine br_not ?_
    | refine br_dec (fun _ => ?_) (fun _ => ?_)
    | refine br_beq (fun _ => ?_) (fun _ => ?_)
    | refine br_bne (fun _ => ?_) (fun _ => ?_)
    | refine br_holds (fun _ => ?_) (fun _ => ?_)
    | refine ⟨PreOk.mk ?_ rfl, ?_⟩
    | refine ⟨idx_ok _ _ _ rfl (by omega) (by omega), ?_⟩
    | refine ⟨okSh_ok _ _ _ (fun _ => rfl) (by omega) (by omega), ?_⟩
    | refine ⟨okSh_okD _ _ _ _ (fun _ => rfl) (by omega) (by omega), ?_⟩
    | refine ⟨aload_ok _ _ rfl (fun _ => rfl) (by omega) (by omega), ?_⟩
    | refine ⟨aload_okD _ _ _ rfl (fun _ => rfl) (by omega) (by omega), ?_⟩
    | refine ⟨astore_ok (by assumption) rfl (by omega) (by omega) (by decide), ?_⟩
    | refine ⟨app_ok (by assumption) rfl rfl (by simp only [List.length_cons, List.length_nil]; omega), ?_⟩
    | refine need_holds ?_ fun _ => ?_
    | refine all_holds fun y hy => ?_
    | refine ret_leD ?_
  all_goals subst_vars
  all_goals try exact trivial
  all_goals try (exfalso; omega)
  all_goals try simp only [v_sValue, v_sVal, v_sReg, v_sAddr, v_sWay, ins_eta] at *
  all_goals try (refine RR.le_of_eq ?_; simp [RR.data, Rc.data, rstep, stepS, Sta.setReg, Sta.cells, v_sJump, v_sBack, rowsOn_nil, obs_row, jumpS, backS, *]; done)
  all_goals try (rename_i h; refine RR.le_of_eq ?_; simp [RR.data, Rc.data, rstep, stepS, setReg_out s _ (show (atS p.ins s.pc).d < 0 ∨ 4 ≤ (atS p.ins s.pc).d by omega), Sta.cells, rowsOn_nil, obs_row, *]; done)
  all_goals try exact ⟨hm, (valS_range ..).1, (valS_range ..).2, (valS_range ..).1, (valS_range ..).2⟩
  all_goals try exact PreOk.mk trivial (by simp [c_sReg, Sta.of, as_, Sta.cells, ap, ai])
  all_goals try exact hs
  all_goals try exact ⟨rfl, all1 _, by simp only [List.length_cons, List.length_nil]; have := hs.2; omega⟩
  all_goals try (have hrg := at_range (l := p.ins) (pc := s.pc) (by rw [show (atS p.ins s.pc).kind = _ from ‹_›]; decide); exact ⟨by dsimp only; omega, by dsimp only; omega⟩)
  all_goals try simp only [← Int.not_lt, Classical.not_not, decide_eq_true_eq, decide_eq_false_iff_not] at *
  all_goals try (have hda := of_decide_eq_true (p := maskS p.w (valS p.w s (atS p.ins s.pc).aR (atS p.ins s.pc).aN + valS p.w s (atS p.ins s.pc).bR (atS p.ins s.pc).bN) < cellsS p.mems) (by assumption))
  all_goals try (have hda := of_decide_eq_false (p := maskS p.w (valS p.w s (atS p.ins s.pc).aR (atS p.ins s.pc).aN + valS p.w s (atS p.ins s.pc).bR (atS p.ins s.pc).bN) < cellsS p.mems) (by assumption))
  all_goals have hA0 := (maskS_range p.w (valS p.w s (atS p.ins s.pc).aR (atS p.ins s.pc).aN + valS p.w s (atS p.ins s.pc).bR (atS p.ins s.pc).bN)).1
  all_goals try exact ⟨by omega, (idx_ok s.mem _ 1 rfl hA0 (by assumption)).2.2, by decide⟩
  all_goals try exact ⟨by have := maskS_range p.w (valS p.w s (atS p.ins s.pc).aR (atS p.ins s.pc).aN + valS p.w s (atS p.ins s.pc).bR (atS p.ins s.pc).bN); omega, by assumption⟩
  all_goals try (refine RR.le_of_eq ?_; simp [RR.data, Rc.data, rstep, stepS, Sta.setReg, Sta.cells, rowsOn_nil, obs_row, *]; done)
  all_goals try (rename_i h; refine RR.le_of_eq ?_; simp [RR.data, Rc.data, rstep, stepS, setReg_out s _ (show (atS p.ins s.pc).d < 0 ∨ 4 ≤ (atS p.ins s.pc).d by omega), Sta.cells, rowsOn_nil, obs_row, *]; done)
  · refine RR.le_of_eq ?_
    simp [RR.data, Rc.data, rstep, stepS, Sta.of, Sta.reg, Sta.cells, rowsOn_nil, obs_row, *]
    exact (OnL.set (R := rowsOn s.mem) (n := s.mem.length) (l := s.mem) ⟨rfl, rfl⟩ hA0 (by assumption) _).1
  · have h4 : 4 ≤ s.stack.length := by omega
    refine RR.le_of_eq ?_
    simp [RR.data, Rc.data, rstep, stepS, Sta.cells, rowsOn_nil, *]
  · have h4 : ¬ 4 ≤ s.stack.length := by omega
    have es : rowsOn s.stack ++ [[D.int .i64 (IntKind.wrap .i64 (s.pc + 1))]] = rowsOn (s.stack ++ [IntKind.wrap .i64 (s.pc + 1)]) := rowsOn_snoc _ _
    refine RR.le_of_eq ?_
    rw [es]
    simp [RR.data, Rc.data, rstep, stepS, Sta.cells, rowsOn_nil, *]
end Go.Proofs.Ytclabjihjopclaa.Ax
end

section
/- One by one: runs. -/
namespace Go.Proofs.Ytclabjihjopclaa.Ax
open Go.RowKit
set_option linter.unusedVariables false
set_option linter.unusedSimpArgs false
theorem setReg_mem' (s : Sta) (r n : Int) : (s.setReg r n).mem = s.mem ∧ (s.setReg r n).stack = s.stack := by
  unfold Sta.setReg
  repeat' split
  all_goals exact ⟨rfl, rfl⟩
theorem step_len (p : Prg) (s : Sta) : (stepS p s).1.mem.length = s.mem.length ∧ (stepS p s).1.stack.length ≤ max s.stack.length 4 ∧ (stepS p s).2.1.length ≤ 1 := by
  have hr := fun n => setReg_mem' s (atS p.ins s.pc).d n
  unfold stepS
  dsimp only
  repeat' split
  all_goals simp [hr]
  all_goals omega
theorem step_small {p : Prg} {s : Sta} (h : SmallS s) : SmallS (stepS p s).1 := by
  obtain ⟨h1, h2, h3⟩ := step_len p s
  obtain ⟨g1, g2⟩ := h
  exact ⟨by omega, by omega⟩
def comb (acc : List Obs) (d : Int) (r : Sta × List Obs × Int × Int) : Sta × List Obs × Int × Int := (r.1, acc ++ r.2.1, d + r.2.2.1, r.2.2.2)
theorem runS_stop {p : Prg} {n : Nat} {s : Sta} (h : (stepS p s).2.2 ≠ 0) : runS p (n + 1) s = ((stepS p s).1, (stepS p s).2.1, 1, (stepS p s).2.2) := by
  simp only [runS]
  rw [if_pos h]
theorem runS_go {p : Prg} {n : Nat} {s : Sta} (h : (stepS p s).2.2 = 0) : runS p (n + 1) s = ((runS p n (stepS p s).1).1, (stepS p s).2.1 ++ (runS p n (stepS p s).1).2.1, (runS p n (stepS p s).1).2.2.1 + 1, (runS p n (stepS p s).1).2.2.2) := by
  simp only [runS]
  rw [if_neg (fun hne => hne h)]
theorem comb_nil (r : Sta × List Obs × Int × Int) : comb [] 0 r = r := by simp [comb]
def rrun (x : Sta × List Obs × Int × Int) : RR := .tup [.inr (x.1.cells.map .d), .inl (.d (.sl (rowsOn x.2.1))), .inl (.d (.int .i64 x.2.2.1)), .inl (.d (.int .i64 x.2.2.2))]
def c_run : FT (Prg × Sta × Int) := ⟨55, fun x => [ap x.1, as_ x.2.1, ai x.2.2], rdPSI, fun x => Mems x.1.mems ∧ SmallS x.2.1 ∧ x.1.ins.length ≤ 1000000 ∧ x.2.2 ≤ 1000000, fun x => rrun (runS x.1 x.2.2.toNat x.2.1), true, fun x => by simp [ap, as_, ai, rdPSI]⟩
noncomputable def v_step : Prg × Sta → Sta × List Obs × Int := fun x => stepS x.1 x.2
noncomputable def sh_step : Sta × List Obs × Int → RR := fun x => rstep x
theorem e_step (x : Prg × Sta) : sh_step (v_step x) = c_step.ans x := rfl
noncomputable def a_run : FnA := (fnA Try.prog Try.f55 3 [(4, [2, 3, 4, 6, 10, 11, 1000010000000900003002])]).getD ⟨0, .skip, [], []⟩
noncomputable def s_run : Sp := spT [c_aStill.gfe v_aStill sh_aStill e_aStill, c_step.gfe v_step sh_step e_step]
theorem s_run_sound : s_run.sound Try.prog := spT_sound fun e he => by
  simp only [List.mem_cons, List.not_mem_nil, or_false] at he
  rcases he with rfl | rfl
  · exact FT.gfe_good c_aStill_good
  · exact FT.gfe_good c_step_good
def F_run (p : Prg) (s : Sta) (n d : Int) (R : List (List D)) (m : Nat) : St := ⟨mkS 45 [(2, vi n), (3, vp 192), (4, vp 256), (6, vp 384), (10, vo 900003 m), (11, vi d)], [(192, bx p.cells), (256, bx s.cells), (384, bc [.d (.int .i64 0), .d (.int .i64 0), .d (.int .i64 0), .d (.int .i64 0), .nil, .nil, .d (.int .i64 0)]), (900003, ba 2 R)]⟩
def F_runo (p : Prg) (s : Sta) (n d : Int) (R : List (List D)) (m : Nat) : St := ⟨mkS 45 [(2, vi n), (3, vp 192), (4, vp 256), (6, vp 384), (10, vo 900003 m), (11, vi d)], [(192, bx p.cells), (256, bc [.d (.int .i64 s.r0), .d (.int .i64 s.r1), .d (.int .i64 s.r2), .d (.int .i64 s.r3), .own 1028 1 (rowsOn s.mem).length, .own 1029 1 (rowsOn s.stack).length, .d (.int .i64 s.pc)]), (384, bc [.d (.int .i64 0), .d (.int .i64 0), .d (.int .i64 0), .d (.int .i64 0), .nil, .nil, .d (.int .i64 0)]), (1028, ba 1 (rowsOn s.mem)), (1029, ba 1 (rowsOn s.stack)), (900003, ba 2 R)]⟩
set_option maxRecDepth 100000 in
theorem t_run (p : Prg) (s : Sta) (n : Int) : a_run.start s_run 400 [ap p, as_ s, ai n] =
(VC.need (PreOk c_aStill (Sta.of (Sta.cells s), ()) [A.agg (Sta.cells s)])
(VC.all (v_aStill (Sta.of (Sta.cells s), ())) fun (y3 : Sta) =>
(FnA.at_ a_run 0 (F_runo p y3 n (0 : Int) [] (0 : Nat))))) := by kernel_rfl
set_option maxRecDepth 100000 in
theorem t_runo (p : Prg) (s : Sta) (n d : Int) (R : List (List D)) (m : Nat) : a_run.round s_run 400 0 (F_runo p s n d R m) =
(VC.br (decide (d < n))
 (VC.need (PreOk c_step (Prg.of (Prg.cells p), Sta.of (Sta.cells s)) [A.agg (Prg.cells p), A.agg (Sta.cells s)])
 (VC.all (v_step (Prg.of (Prg.cells p), Sta.of (Sta.cells s))) fun (y6 : Sta × List Obs × Int) =>
 (VC.need ((List.all (rowsOn y6.snd.fst) fun r ↦ List.length r == (2 : Nat)) = true ∧ (List.all R fun r ↦ List.length r == (2 : Nat)) = true ∧ (List.length R + List.length (rowsOn y6.snd.fst) + (100 : Nat)) * (17 : Nat) ≤ (70368744177664 : Nat))
 (VC.br (y6.snd.snd != (0 : Int))
  (VC.ret (some (RR.tup [Sum.inr [Rc.d (D.int IntKind.i64 y6.fst.r0), Rc.d (D.int IntKind.i64 y6.fst.r1), Rc.d (D.int IntKind.i64 y6.fst.r2), Rc.d (D.int IntKind.i64 y6.fst.r3), Rc.d (D.sl (rowsOn y6.fst.mem)), Rc.d (D.sl (rowsOn y6.fst.stack)), Rc.d (D.int IntKind.i64 y6.fst.pc)], Sum.inl (Rc.new (2 : Nat) (R ++ rowsOn y6.snd.fst)), Sum.inl (Rc.d (D.int IntKind.i64 (IntKind.wrap IntKind.i64 (d + (1 : Int))))), Sum.inl (Rc.d (D.int IntKind.i64 y6.snd.snd))])))
  (VC.br (IntKind.wrap IntKind.i64 (d + (1 : Int)) == n)
   (VC.ret (some (RR.tup [Sum.inr [Rc.d (D.int IntKind.i64 y6.fst.r0), Rc.d (D.int IntKind.i64 y6.fst.r1), Rc.d (D.int IntKind.i64 y6.fst.r2), Rc.d (D.int IntKind.i64 y6.fst.r3), Rc.d (D.sl (rowsOn y6.fst.mem)), Rc.d (D.sl (rowsOn y6.fst.stack)), Rc.d (D.int IntKind.i64 y6.fst.pc)], Sum.inl (Rc.new (2 : Nat) (R ++ rowsOn y6.snd.fst)), Sum.inl (Rc.d (D.int IntKind.i64 (IntKind.wrap IntKind.i64 (d + (1 : Int))))), Sum.inl (Rc.d (D.int IntKind.i64 y6.snd.snd))])))
   (FnA.at_ a_run 0 (F_run p y6.fst n (IntKind.wrap IntKind.i64 (d + (1 : Int))) (R ++ rowsOn y6.snd.fst) (List.length R + List.length (rowsOn y6.snd.fst)))))))))
 (VC.ret (some (RR.tup [Sum.inr [Rc.d (D.int IntKind.i64 s.r0), Rc.d (D.int IntKind.i64 s.r1), Rc.d (D.int IntKind.i64 s.r2), Rc.d (D.int IntKind.i64 s.r3), Rc.new (1 : Nat) (rowsOn s.mem), Rc.new (1 : Nat) (rowsOn s.stack), Rc.d (D.int IntKind.i64 s.pc)], Sum.inl Rc.nil, Sum.inl (Rc.d (D.int IntKind.i64 (0 : Int))), Sum.inl (Rc.d (D.int IntKind.i64 (0 : Int)))])))) := by kernel_rfl
set_option maxRecDepth 100000 in
theorem t_run0 (p : Prg) (s : Sta) (n d : Int) (R : List (List D)) (m : Nat) : a_run.round s_run 400 0 (F_run p s n d R m) =
(VC.br (decide (d < n))
 (VC.need (PreOk c_step (Prg.of (Prg.cells p), Sta.of (Sta.cells s)) [A.agg (Prg.cells p), A.agg (Sta.cells s)])
 (VC.all (v_step (Prg.of (Prg.cells p), Sta.of (Sta.cells s))) fun (y6 : Sta × List Obs × Int) =>
 (VC.need ((List.all (rowsOn y6.snd.fst) fun r ↦ List.length r == (2 : Nat)) = true ∧ (List.all R fun r ↦ List.length r == (2 : Nat)) = true ∧ (List.length R + List.length (rowsOn y6.snd.fst) + (100 : Nat)) * (17 : Nat) ≤ (70368744177664 : Nat))
 (VC.br (y6.snd.snd != (0 : Int))
  (VC.ret (some (RR.tup [Sum.inr [Rc.d (D.int IntKind.i64 y6.fst.r0), Rc.d (D.int IntKind.i64 y6.fst.r1), Rc.d (D.int IntKind.i64 y6.fst.r2), Rc.d (D.int IntKind.i64 y6.fst.r3), Rc.d (D.sl (rowsOn y6.fst.mem)), Rc.d (D.sl (rowsOn y6.fst.stack)), Rc.d (D.int IntKind.i64 y6.fst.pc)], Sum.inl (Rc.new (2 : Nat) (R ++ rowsOn y6.snd.fst)), Sum.inl (Rc.d (D.int IntKind.i64 (IntKind.wrap IntKind.i64 (d + (1 : Int))))), Sum.inl (Rc.d (D.int IntKind.i64 y6.snd.snd))])))
  (VC.br (IntKind.wrap IntKind.i64 (d + (1 : Int)) == n)
   (VC.ret (some (RR.tup [Sum.inr [Rc.d (D.int IntKind.i64 y6.fst.r0), Rc.d (D.int IntKind.i64 y6.fst.r1), Rc.d (D.int IntKind.i64 y6.fst.r2), Rc.d (D.int IntKind.i64 y6.fst.r3), Rc.d (D.sl (rowsOn y6.fst.mem)), Rc.d (D.sl (rowsOn y6.fst.stack)), Rc.d (D.int IntKind.i64 y6.fst.pc)], Sum.inl (Rc.new (2 : Nat) (R ++ rowsOn y6.snd.fst)), Sum.inl (Rc.d (D.int IntKind.i64 (IntKind.wrap IntKind.i64 (d + (1 : Int))))), Sum.inl (Rc.d (D.int IntKind.i64 y6.snd.snd))])))
   (FnA.at_ a_run 0 (F_run p y6.fst n (IntKind.wrap IntKind.i64 (d + (1 : Int))) (R ++ rowsOn y6.snd.fst) (List.length R + List.length (rowsOn y6.snd.fst)))))))))
 (VC.ret (some (RR.tup [Sum.inr [Rc.d (D.int IntKind.i64 s.r0), Rc.d (D.int IntKind.i64 s.r1), Rc.d (D.int IntKind.i64 s.r2), Rc.d (D.int IntKind.i64 s.r3), Rc.d (D.sl (rowsOn s.mem)), Rc.d (D.sl (rowsOn s.stack)), Rc.d (D.int IntKind.i64 s.pc)], Sum.inl Rc.nil, Sum.inl (Rc.d (D.int IntKind.i64 (0 : Int))), Sum.inl (Rc.d (D.int IntKind.i64 (0 : Int)))])))) := by kernel_rfl
theorem OnL.app2 {α : Type} [Row α] {R : List (List D)} {n : Nat} {l : List α} (h : OnL R n l) (m : List α) : OnL (R ++ rowsOn m) (R.length + m.length) (l ++ m) := by
  have := h.app m
  rwa [rowsOn_length] at this
theorem all2 {α : Type} [Row α] (l : List α) {k : Nat} (h : k = Row.n α) : ((rowsOn l).all fun r => r.length == k) = true := rowsOn_all l k h
theorem rrun_le {t : Sta} {R : List (List D)} {m : Nat} {acc : List Obs} {k e : Int} {fin : Sta × List Obs × Int × Int} (hR : OnL R m acc) (h : fin = (t, acc, k, e)) : (RR.tup [.inr [.d (.int .i64 t.r0), .d (.int .i64 t.r1), .d (.int .i64 t.r2), .d (.int .i64 t.r3), .d (.sl (rowsOn t.mem)), .d (.sl (rowsOn t.stack)), .d (.int .i64 t.pc)], .inl (.new 2 R), .inl (.d (.int .i64 k)), .inl (.d (.int .i64 e))]).data.le (rrun fin) := by
  subst h
  rw [hR.1]
  exact RR.le_of_eq rfl
theorem l_run0 (p : Prg) (n : Int) (fin : Sta × List Obs × Int × Int) (hm : Mems p.mems) (hl : p.ins.length ≤ 1000000) (hn : n ≤ 1000000) : ∀ i : Sta × Int × List (List D) × Nat, (fun (i : Sta × Int × List (List D) × Nat) => SmallS i.1 ∧ 0 ≤ i.2.1 ∧ i.2.1 < n ∧ ∃ acc : List Obs, OnL i.2.2.1 i.2.2.2 acc ∧ acc.length ≤ i.2.1 ∧ comb acc i.2.1 (runS p (n - i.2.1).toNat i.1) = fin) i → (a_run.at_ 0 ((fun (i : Sta × Int × List (List D) × Nat) => F_run p i.1 n i.2.1 i.2.2.1 i.2.2.2) i)).holds s_run.cx a_run.rs (fun r => r.data.le (rrun fin)) := by
  refine loop_rule (a := a_run) (j := 0) (m := 400) s_run_sound (fun (i : Sta × Int × List (List D) × Nat) => F_run p i.1 n i.2.1 i.2.2.1 i.2.2.2) (fun (i : Sta × Int × List (List D) × Nat) => SmallS i.1 ∧ 0 ≤ i.2.1 ∧ i.2.1 < n ∧ ∃ acc : List Obs, OnL i.2.2.1 i.2.2.2 acc ∧ acc.length ≤ i.2.1 ∧ comb acc i.2.1 (runS p (n - i.2.1).toNat i.1) = fin) (fun (i : Sta × Int × List (List D) × Nat) => (n - i.2.1).toNat) ?_
  rintro ⟨s, d, R, m⟩ h_inv ih
  try dsimp only at h_inv
  replace ih := fun (v0 : Sta) (v1 : Int) (v2 : List (List D)) (v3 : Nat) => ih (v0, v1, v2, v3)
  try dsimp only at ih
  show VC.holds _ _ _ (a_run.round s_run 400 0 (F_run p s n d R m))
  rw [t_run0]
  try simp only [asRows_sl, asInt_int, asBool_bool, asStr_str, listOf_rowsOn, List.drop_zero, Prg.eta, Sta.eta, rowsOn_length, getD_drop, Nat.reduceAdd, rd_int, rd_PMem_name, rd_PMem_secret, rd_PMem_n, rd_PLabel_name, rd_PLabel_at_, rd_Ins_kind, rd_Ins_op, rd_Ins_d, rd_Ins_aR, rd_Ins_aN, rd_Ins_bR, rd_Ins_bN, rd_Ins_name, rd_Ins_target, rd_Ent_pc, rd_Ent_val, rd_Ent_addr, rd_Ent_fro, rd_Ent_next, rd_Ent_done, rd_Ent_known, rd_Ent_fault, rd_Place_reg, rd_Place_n, rd_Place_secret, rd_Obs_kind, rd_Obs_at_, rd_Dir_kind, rd_Dir_n, Prg.of_cells, Sta.of_cells]
  obtain ⟨hs, h0, h1, acc, h2, h3, h4⟩ := h_inv
  have w1 : IntKind.wrap .i64 (d + 1) = d + 1 := wrap_small _ (by omega) (by omega)
  rw [w1]
  obtain ⟨k, hk⟩ : ∃ k, (n - d).toNat = k + 1 := ⟨(n - d).toNat - 1, by omega⟩
  rw [hk] at h4
  have hol := (step_len p s).2.2
  have e2 := h2.2
  refine br_dec (fun _ => ?_) (fun h => absurd h1 h)
  refine ⟨PreOk.mk ⟨hm, hs, hl⟩ rfl, all_holds fun y hy => ?_⟩
  replace hy : y = stepS p s := hy
  subst hy
  have e1 := h2.1
  refine ⟨⟨all2 _ rfl, by rw [e1]; exact all2 _ rfl, by rw [e1]; simp only [rowsOn_length]; omega⟩, ?_⟩
  refine br_bne (fun h => ?_) (fun h => ?_)
  · refine ret_leD (rrun_le (h2.app _) ?_)
    rw [← h4, runS_stop h]
    rfl
  · rw [runS_go h] at h4
    refine br_beq (fun h' => ?_) (fun h' => ?_)
    · refine ret_leD (rrun_le (h2.app _) ?_)
      have hk0 : k = 0 := by omega
      subst hk0
      rw [← h4, h]
      simp [comb, runS]
    · refine ih _ _ _ _ ⟨step_small hs, by omega, by omega, _, h2.app2 _, by simp only [List.length_append]; omega, ?_⟩ (by omega)
      rw [← h4, show (n - (d + 1)).toNat = k by omega]
      simp [comb, List.append_assoc]
      omega
theorem c_run_good : c_run.fe.Good Try.prog := by
  refine FT.good c_run ⟨Try.f55, by kernel_rfl, by decide +kernel, by kernel_rfl⟩ (fun ⟨p, s, n⟩ => by first | rfl | simp [c_run, rrRef, rstep, rins, rnum, rby, rss, rnewI, rnewE, rstab, rplaces, ri, rb, rib, rrun, Sta.fresh]) fun ⟨p, s, n⟩ hp => ?_
  refine acalls_leD s_run_sound (fn := Try.f55) (a := a_run) (nargs := 3) (tbl := [(4, [2, 3, 4, 6, 10, 11, 1000010000000900003002])]) (by kernel_rfl) (by kernel_rfl) rfl (m := 400) ?_
  show VC.holds _ _ _ (a_run.start s_run 400 [ap p, as_ s, ai n])
  rw [t_run]
  try simp only [asRows_sl, asInt_int, asBool_bool, asStr_str, listOf_rowsOn, List.drop_zero, Prg.eta, Sta.eta, rowsOn_length, getD_drop, Nat.reduceAdd, rd_int, rd_PMem_name, rd_PMem_secret, rd_PMem_n, rd_PLabel_name, rd_PLabel_at_, rd_Ins_kind, rd_Ins_op, rd_Ins_d, rd_Ins_aR, rd_Ins_aN, rd_Ins_bR, rd_Ins_bN, rd_Ins_name, rd_Ins_target, rd_Ent_pc, rd_Ent_val, rd_Ent_addr, rd_Ent_fro, rd_Ent_next, rd_Ent_done, rd_Ent_known, rd_Ent_fault, rd_Place_reg, rd_Place_n, rd_Place_secret, rd_Obs_kind, rd_Obs_at_, rd_Dir_kind, rd_Dir_n, Prg.of_cells, Sta.of_cells]
  try simp only [c_run] at hp
  obtain ⟨hm, hs, hl, hn⟩ := hp
  refine ⟨PreOk.mk hs rfl, all_holds fun y hy => ?_⟩
  replace hy : s = y := hy.symm
  subst hy
  have e : c_run.ans (p, s, n) = rrun (runS p n.toNat s) := rfl
  rw [e]
  refine at_of_round s_run_sound (m := 400) ?_
  rw [t_runo]
  have hol := (step_len p s).2.2
  try simp only [asRows_sl, asInt_int, asBool_bool, asStr_str, listOf_rowsOn, List.drop_zero, Prg.eta, Sta.eta, rowsOn_length, getD_drop, Nat.reduceAdd, rd_int, rd_PMem_name, rd_PMem_secret, rd_PMem_n, rd_PLabel_name, rd_PLabel_at_, rd_Ins_kind, rd_Ins_op, rd_Ins_d, rd_Ins_aR, rd_Ins_aN, rd_Ins_bR, rd_Ins_bN, rd_Ins_name, rd_Ins_target, rd_Ent_pc, rd_Ent_val, rd_Ent_addr, rd_Ent_fro, rd_Ent_next, rd_Ent_done, rd_Ent_known, rd_Ent_fault, rd_Place_reg, rd_Place_n, rd_Place_secret, rd_Obs_kind, rd_Obs_at_, rd_Dir_kind, rd_Dir_n, Prg.of_cells, Sta.of_cells]
  rw [wrap_small (0 + 1) (by omega) (by omega)]
  refine br_dec (fun h => ?_) (fun h => ?_)
  · obtain ⟨k, hk⟩ : ∃ k, n.toNat = k + 1 := ⟨n.toNat - 1, by omega⟩
    refine ⟨PreOk.mk ⟨hm, hs, hl⟩ rfl, all_holds fun y hy => ?_⟩
    replace hy : y = stepS p s := hy
    subst hy
    refine ⟨⟨all2 _ rfl, rfl, by simp; omega⟩, ?_⟩
    have ho : OnL ([] ++ rowsOn (stepS p s).2.1) (([] : List (List D)).length + (stepS p s).2.1.length) (([] : List Obs) ++ (stepS p s).2.1) := OnL.nil.app2 _
    rw [hk]
    refine br_bne (fun h => ?_) (fun h => ?_)
    · refine ret_leD (rrun_le ho ?_)
      rw [runS_stop h]
      rfl
    · rw [runS_go h]
      refine br_beq (fun h' => ?_) (fun h' => ?_)
      · refine ret_leD (rrun_le ho ?_)
        have hk0 : k = 0 := by omega
        subst hk0
        rw [h]
        simp [runS]
      · refine l_run0 p n _ hm hl hn ((stepS p s).1, 0 + 1, _, _) ⟨step_small hs, by dsimp only; omega, by dsimp only; omega, _, ho, by simp; omega, ?_⟩
        rw [show (n - (0 + 1)).toNat = k by omega]
        simp [comb]
        omega
  · refine ret_leD ?_
    have hk : n.toNat = 0 := by omega
    rw [hk]
    exact RR.le_of_eq rfl
end Go.Proofs.Ytclabjihjopclaa.Ax
end

section
/- One by one, by the document: auguryref7's step and run. -/
namespace Go.Proofs.Ytclabjihjopclaa.Ax
open Go.RowKit
set_option linter.unusedVariables false
set_option linter.unusedSimpArgs false
def c_rAt : FT (Prg × Int) := ⟨62, fun x => [ap x.1, ai x.2], rdPI, fun _ => True, fun x => rins (atS x.1.ins x.2), false, fun x => by simp [ap, ai, rdPI]⟩
noncomputable def a_rAt : FnA := (fnA Try.prog Try.f62 2 []).getD ⟨0, .skip, [], []⟩
def s_rAt : Sp := spT []
theorem s_rAt_sound : s_rAt.sound Try.prog := spT_sound fun e he => by cases he
set_option maxRecDepth 100000 in
theorem t_rAt (p : Prg) (i : Int) : a_rAt.start s_rAt 400 [ap p, ai i] =
(VC.br (decide (i < (0 : Int)))
 (VC.ret (some (RR.agg [Rc.d (D.int IntKind.i64 (12 : Int)), Rc.d (D.int IntKind.i64 (0 : Int)), Rc.d (D.int IntKind.i64 (0 : Int)), Rc.d (D.bool false), Rc.d (D.int IntKind.i64 (0 : Int)), Rc.d (D.bool false), Rc.d (D.int IntKind.i64 (0 : Int)), Rc.d (D.str { data := #[] }), Rc.d (D.int IntKind.i64 (0 : Int))])))
 (VC.br (decide ((↑(List.length (rowsOn p.ins)) : Int) ≤ i))
  (VC.ret (some (RR.agg [Rc.d (D.int IntKind.i64 (12 : Int)), Rc.d (D.int IntKind.i64 (0 : Int)), Rc.d (D.int IntKind.i64 (0 : Int)), Rc.d (D.bool false), Rc.d (D.int IntKind.i64 (0 : Int)), Rc.d (D.bool false), Rc.d (D.int IntKind.i64 (0 : Int)), Rc.d (D.str { data := #[] }), Rc.d (D.int IntKind.i64 (0 : Int))])))
  (VC.need ((0 : Int) ≤ i ∧ i < (↑(List.length (rowsOn p.ins)) : Int) ∧ List.length (rowAt (rowsOn p.ins) (Int.toNat i)) = (9 : Nat))
  (VC.need (okSh [Kd.int IntKind.i64, Kd.int IntKind.i64, Kd.int IntKind.i64, Kd.bool, Kd.int IntKind.i64, Kd.bool, Kd.int IntKind.i64, Kd.str, Kd.int IntKind.i64] (rowAt (rowsOn p.ins) (Int.toNat i)))
  (VC.ret (some (RR.agg [Rc.d (D.int IntKind.i64 (asInt (List.getD (rowAt (rowsOn p.ins) (Int.toNat i)) (0 : Nat) D.nilp))), Rc.d (D.int IntKind.i64 (asInt (List.getD (rowAt (rowsOn p.ins) (Int.toNat i)) (1 : Nat) D.nilp))), Rc.d (D.int IntKind.i64 (asInt (List.getD (rowAt (rowsOn p.ins) (Int.toNat i)) (2 : Nat) D.nilp))), Rc.d (D.bool (asBool (List.getD (rowAt (rowsOn p.ins) (Int.toNat i)) (3 : Nat) D.nilp))), Rc.d (D.int IntKind.i64 (asInt (List.getD (rowAt (rowsOn p.ins) (Int.toNat i)) (4 : Nat) D.nilp))), Rc.d (D.bool (asBool (List.getD (rowAt (rowsOn p.ins) (Int.toNat i)) (5 : Nat) D.nilp))), Rc.d (D.int IntKind.i64 (asInt (List.getD (rowAt (rowsOn p.ins) (Int.toNat i)) (6 : Nat) D.nilp))), Rc.d (D.str (asStr (List.getD (rowAt (rowsOn p.ins) (Int.toNat i)) (7 : Nat) D.nilp))), Rc.d (D.int IntKind.i64 (asInt (List.getD (rowAt (rowsOn p.ins) (Int.toNat i)) (8 : Nat) D.nilp)))]))))))) := by kernel_rfl
theorem c_rAt_good : c_rAt.fe.Good Try.prog := by
  refine FT.good c_rAt ⟨Try.f62, by kernel_rfl, by decide +kernel, by kernel_rfl⟩ (fun ⟨p, i⟩ => by first | rfl | simp [c_rAt, rrRef, rrun, rstep, rins, rnum, rby, rss, rnewI, rnewE, rstab, rplaces, ri, rb, rib, Sta.fresh]) fun ⟨p, i⟩ hp => ?_
  refine acalls_le s_rAt_sound (fn := Try.f62) (a := a_rAt) (nargs := 2) (tbl := []) (by kernel_rfl) (by kernel_rfl) rfl (m := 400) ?_
  show VC.holds _ _ _ (a_rAt.start s_rAt 400 [ap p, ai i])
  rw [t_rAt]
  try simp only [asRows_sl, asInt_int, asBool_bool, asStr_str, listOf_rowsOn, List.drop_zero, Prg.eta, Sta.eta, rowsOn_length, getD_drop, Nat.reduceAdd, rd_int, rd_PMem_name, rd_PMem_secret, rd_PMem_n, rd_PLabel_name, rd_PLabel_at_, rd_Ins_kind, rd_Ins_op, rd_Ins_d, rd_Ins_aR, rd_Ins_aN, rd_Ins_bR, rd_Ins_bN, rd_Ins_name, rd_Ins_target, rd_Ent_pc, rd_Ent_val, rd_Ent_addr, rd_Ent_fro, rd_Ent_next, rd_Ent_done, rd_Ent_known, rd_Ent_fault, rd_Place_reg, rd_Place_n, rd_Place_secret, rd_Obs_kind, rd_Obs_at_, rd_Dir_kind, rd_Dir_n, Prg.of_cells, Sta.of_cells]
  try simp only [c_rAt] at hp
  repeat' first
    | refine br_not ?_
    | refine br_dec (fun _ => ?_) (fun _ => ?_)
    | refine br_beq (fun _ => ?_) (fun _ => ?_)
    | refine br_bne (fun _ => ?_) (fun _ => ?_)
    | refine br_holds (fun _ => ?_) (fun _ => ?_)
    | refine ⟨PreOk.mk ?_ rfl, ?_⟩
    | refine ⟨idx_ok _ _ _ rfl (by omega) (by omega), ?_⟩
    | refine ⟨okSh_ok _ _ _ (fun _ => rfl) (by omega) (by omega), ?_⟩
    | refine ⟨okSh_okD _ _ _ _ (fun _ => rfl) (by omega) (by omega), ?_⟩
    | refine ⟨aload_ok _ _ rfl (fun _ => rfl) (by omega) (by omega), ?_⟩
    | refine ⟨aload_okD _ _ _ rfl (fun _ => rfl) (by omega) (by omega), ?_⟩
    | refine ⟨astore_ok (by assumption) rfl (by omega) (by omega) (by decide), ?_⟩
    | refine ⟨app_ok (by assumption) rfl rfl (by simp only [List.length_cons, List.length_nil]; omega), ?_⟩
    | refine need_holds ?_ fun _ => ?_
    | refine all_holds fun y hy => ?_
    | refine ret_le ?_
  all_goals refine RR.le_of_eq ?_
  · show _ = rins (atS p.ins i)
    unfold atS; rw [if_pos (.inl ‹_›)]; rfl
  · show _ = rins (atS p.ins i)
    unfold atS; rw [if_pos (.inr ‹_›)]; rfl
  · show _ = rins (atS p.ins i)
    unfold atS; rw [if_neg (by omega)]; rfl
noncomputable def v_rAt : Prg × Int → Ins := fun x => atS x.1.ins x.2
noncomputable def sh_rAt : Ins → RR := fun i => rins i
theorem e_rAt (x : Prg × Int) : sh_rAt (v_rAt x) = c_rAt.ans x := rfl
structure Regs where
  r0 : Int
  r1 : Int
  r2 : Int
  r3 : Int
  deriving Inhabited
def Regs.get (s : Regs) (r : Int) : Int := if r = 0 then s.r0 else if r = 1 then s.r1 else if r = 2 then s.r2 else s.r3
def aRegs (g : Regs) : A := .agg [.int .i64 g.r0, .int .i64 g.r1, .int .i64 g.r2, .int .i64 g.r3]
def rdPRV : List A → Prg × Regs × Bool × Int
  | [.agg l, .agg [.int _ a, .int _ b, .int _ c, .int _ d], .agg [.bool r, .int _ i]] => (Prg.of l, ⟨a, b, c, d⟩, r, i)
  | _ => default
def valR (w : Int) (g : Regs) (r : Bool) (n : Int) : Int := if r then g.get (n % 4) else maskS w n
def c_rVal : FT (Prg × Regs × Bool × Int) := ⟨109, fun x => [ap x.1, aRegs x.2.1, aVal x.2.2.1 x.2.2.2], rdPRV, fun _ => True, fun x => ri (valR x.1.w x.2.1 x.2.2.1 x.2.2.2), false, fun x => by simp [ap, aRegs, aVal, rdPRV]⟩
noncomputable def a_rVal : FnA := (fnA Try.prog Try.f109 3 []).getD ⟨0, .skip, [], []⟩
def s_rVal : Sp := spT [c_rMask.fe]
theorem s_rVal_sound : s_rVal.sound Try.prog := spT_sound fun e he => by
  simp only [List.mem_cons, List.not_mem_nil, or_false] at he
  rcases he with rfl
  · exact c_rMask_good
set_option maxRecDepth 100000 in
theorem t_rVal (p : Prg) (g : Regs) (r : Bool) (n : Int) : a_rVal.start s_rVal 400 [ap p, aRegs g, aVal r n] =
(VC.br (r)
 (VC.br (decide (bits BinOp.and IntKind.i64 n (3 : Int) = (0 : Int)))
  (VC.ret (some (RR.c (Rc.d (D.int IntKind.i64 g.r0)))))
  (VC.br (decide (bits BinOp.and IntKind.i64 n (3 : Int) = (1 : Int)))
   (VC.ret (some (RR.c (Rc.d (D.int IntKind.i64 g.r1)))))
   (VC.br (decide (bits BinOp.and IntKind.i64 n (3 : Int) = (2 : Int)))
    (VC.ret (some (RR.c (Rc.d (D.int IntKind.i64 g.r2)))))
    (VC.br (decide (bits BinOp.and IntKind.i64 n (3 : Int) = (3 : Int)))
     (VC.ret (some (RR.c (Rc.d (D.int IntKind.i64 g.r3)))))
     VC.ff))))
 (VC.need (PreOk c_rMask (p.w, n) [A.c (D.int IntKind.i64 p.w), A.c (D.int IntKind.i64 n)])
 (VC.ret (some (RR.c (Rc.d (D.int IntKind.i64 (maskS p.w n)))))))) := by kernel_rfl
theorem c_rVal_good : c_rVal.fe.Good Try.prog := by
  refine FT.good c_rVal ⟨Try.f109, by kernel_rfl, by decide +kernel, by kernel_rfl⟩ (fun ⟨p, g, r, n⟩ => by first | rfl | simp [c_rVal, rrRef, rrun, rstep, rins, rnum, rby, rss, rnewI, rnewE, rstab, rplaces, ri, rb, rib, Sta.fresh]) fun ⟨p, g, r, n⟩ hp => ?_
  refine acalls_le s_rVal_sound (fn := Try.f109) (a := a_rVal) (nargs := 3) (tbl := []) (by kernel_rfl) (by kernel_rfl) rfl (m := 400) ?_
  show VC.holds _ _ _ (a_rVal.start s_rVal 400 [ap p, aRegs g, aVal r n])
  rw [t_rVal]
  try simp only [asRows_sl, asInt_int, asBool_bool, asStr_str, listOf_rowsOn, List.drop_zero, Prg.eta, Sta.eta, rowsOn_length, getD_drop, Nat.reduceAdd, rd_int, rd_PMem_name, rd_PMem_secret, rd_PMem_n, rd_PLabel_name, rd_PLabel_at_, rd_Ins_kind, rd_Ins_op, rd_Ins_d, rd_Ins_aR, rd_Ins_aN, rd_Ins_bR, rd_Ins_bN, rd_Ins_name, rd_Ins_target, rd_Ent_pc, rd_Ent_val, rd_Ent_addr, rd_Ent_fro, rd_Ent_next, rd_Ent_done, rd_Ent_known, rd_Ent_fault, rd_Place_reg, rd_Place_n, rd_Place_secret, rd_Obs_kind, rd_Obs_at_, rd_Dir_kind, rd_Dir_n, Prg.of_cells, Sta.of_cells]
  try simp only [c_rVal] at hp
  simp only [and3]
  repeat' first
    | refine br_not ?_
    | refine br_dec (fun _ => ?_) (fun _ => ?_)
    | refine br_beq (fun _ => ?_) (fun _ => ?_)
    | refine br_bne (fun _ => ?_) (fun _ => ?_)
    | refine br_holds (fun _ => ?_) (fun _ => ?_)
    | refine ⟨PreOk.mk ?_ rfl, ?_⟩
    | refine ⟨idx_ok _ _ _ rfl (by omega) (by omega), ?_⟩
    | refine ⟨okSh_ok _ _ _ (fun _ => rfl) (by omega) (by omega), ?_⟩
    | refine ⟨okSh_okD _ _ _ _ (fun _ => rfl) (by omega) (by omega), ?_⟩
    | refine ⟨aload_ok _ _ rfl (fun _ => rfl) (by omega) (by omega), ?_⟩
    | refine ⟨aload_okD _ _ _ rfl (fun _ => rfl) (by omega) (by omega), ?_⟩
    | refine ⟨astore_ok (by assumption) rfl (by omega) (by omega) (by decide), ?_⟩
    | refine ⟨app_ok (by assumption) rfl rfl (by simp only [List.length_cons, List.length_nil]; omega), ?_⟩
    | refine need_holds ?_ fun _ => ?_
    | refine all_holds fun y hy => ?_
    | refine ret_le ?_
  all_goals try exact trivial
  all_goals try (exfalso; omega)
  all_goals refine RR.le_of_eq ?_
  all_goals simp [c_rVal, valR, Regs.get, ri, *]
noncomputable def v_rVal : Prg × Regs × Bool × Int → Int := fun x => valR x.1.w x.2.1 x.2.2.1 x.2.2.2
noncomputable def sh_rVal : Int → RR := fun i => ri i
theorem e_rVal (x : Prg × Regs × Bool × Int) : sh_rVal (v_rVal x) = c_rVal.ans x := rfl
def c_rJump : FT (Prg × Int) := ⟨111, fun x => [ap x.1, ai x.2], rdPI, fun _ => True, fun x => ri (min x.2 x.1.ins.length), false, fun x => by simp [ap, ai, rdPI]⟩
noncomputable def a_rJump : FnA := (fnA Try.prog Try.f111 2 []).getD ⟨0, .skip, [], []⟩
def s_rJump : Sp := spT []
theorem s_rJump_sound : s_rJump.sound Try.prog := spT_sound fun e he => by cases he
set_option maxRecDepth 100000 in
theorem t_rJump (p : Prg) (i : Int) : a_rJump.start s_rJump 400 [ap p, ai i] =
(VC.ret (some (RR.c (Rc.d (D.int IntKind.i64 (min i (↑(List.length (rowsOn p.ins)) : Int))))))) := by kernel_rfl
theorem c_rJump_good : c_rJump.fe.Good Try.prog := by
  refine FT.good c_rJump ⟨Try.f111, by kernel_rfl, by decide +kernel, by kernel_rfl⟩ (fun ⟨p, i⟩ => by first | rfl | simp [c_rJump, rrRef, rrun, rstep, rins, rnum, rby, rss, rnewI, rnewE, rstab, rplaces, ri, rb, rib, Sta.fresh]) fun ⟨p, i⟩ hp => ?_
  refine acalls_le s_rJump_sound (fn := Try.f111) (a := a_rJump) (nargs := 2) (tbl := []) (by kernel_rfl) (by kernel_rfl) rfl (m := 400) ?_
  show VC.holds _ _ _ (a_rJump.start s_rJump 400 [ap p, ai i])
  rw [t_rJump]
  try simp only [asRows_sl, asInt_int, asBool_bool, asStr_str, listOf_rowsOn, List.drop_zero, Prg.eta, Sta.eta, rowsOn_length, getD_drop, Nat.reduceAdd, rd_int, rd_PMem_name, rd_PMem_secret, rd_PMem_n, rd_PLabel_name, rd_PLabel_at_, rd_Ins_kind, rd_Ins_op, rd_Ins_d, rd_Ins_aR, rd_Ins_aN, rd_Ins_bR, rd_Ins_bN, rd_Ins_name, rd_Ins_target, rd_Ent_pc, rd_Ent_val, rd_Ent_addr, rd_Ent_fro, rd_Ent_next, rd_Ent_done, rd_Ent_known, rd_Ent_fault, rd_Place_reg, rd_Place_n, rd_Place_secret, rd_Obs_kind, rd_Obs_at_, rd_Dir_kind, rd_Dir_n, Prg.of_cells, Sta.of_cells]
  try simp only [c_rJump] at hp
  repeat' first
    | refine br_not ?_
    | refine br_dec (fun _ => ?_) (fun _ => ?_)
    | refine br_beq (fun _ => ?_) (fun _ => ?_)
    | refine br_bne (fun _ => ?_) (fun _ => ?_)
    | refine br_holds (fun _ => ?_) (fun _ => ?_)
    | refine ⟨PreOk.mk ?_ rfl, ?_⟩
    | refine ⟨idx_ok _ _ _ rfl (by omega) (by omega), ?_⟩
    | refine ⟨okSh_ok _ _ _ (fun _ => rfl) (by omega) (by omega), ?_⟩
    | refine ⟨okSh_okD _ _ _ _ (fun _ => rfl) (by omega) (by omega), ?_⟩
    | refine ⟨aload_ok _ _ rfl (fun _ => rfl) (by omega) (by omega), ?_⟩
    | refine ⟨aload_okD _ _ _ rfl (fun _ => rfl) (by omega) (by omega), ?_⟩
    | refine ⟨astore_ok (by assumption) rfl (by omega) (by omega) (by decide), ?_⟩
    | refine ⟨app_ok (by assumption) rfl rfl (by simp only [List.length_cons, List.length_nil]; omega), ?_⟩
    | refine need_holds ?_ fun _ => ?_
    | refine all_holds fun y hy => ?_
    | refine ret_le ?_
  exact RR.le_of_eq (by simp [c_rJump, ri, Int.min_comm])
noncomputable def v_rJump : Prg × Int → Int := fun x => min x.2 x.1.ins.length
noncomputable def sh_rJump : Int → RR := fun i => ri i
theorem e_rJump (x : Prg × Int) : sh_rJump (v_rJump x) = c_rJump.ans x := rfl
noncomputable def v_rMask : Int × Int → Int := fun x => maskS x.1 x.2
noncomputable def sh_rMask : Int → RR := fun i => ri i
theorem e_rMask (x : Int × Int) : sh_rMask (v_rMask x) = c_rMask.ans x := rfl
noncomputable def v_rDo : Int × Int × Int × Int → Int × Bool := fun x => doS x.1 x.2.1 x.2.2.1 x.2.2.2
noncomputable def sh_rDo : Int × Bool → RR := fun i => rib i
theorem e_rDo (x : Int × Int × Int × Int) : sh_rDo (v_rDo x) = c_rDo.ans x := rfl
noncomputable def a_rStep : FnA := (fnA Try.prog Try.f58 2 []).getD ⟨0, .skip, [], []⟩
noncomputable def s_rStep : Sp := spT [c_rAt.gfe v_rAt sh_rAt e_rAt, c_rVal.gfe v_rVal sh_rVal e_rVal, c_rMask.gfe v_rMask sh_rMask e_rMask, c_rDo.gfe v_rDo sh_rDo e_rDo, c_rJump.gfe v_rJump sh_rJump e_rJump]
theorem s_rStep_sound : s_rStep.sound Try.prog := spT_sound fun e he => by
  simp only [List.mem_cons, List.not_mem_nil, or_false] at he
  rcases he with rfl | rfl | rfl | rfl | rfl
  · exact FT.gfe_good c_rAt_good
  · exact FT.gfe_good c_rVal_good
  · exact FT.gfe_good c_rMask_good
  · exact FT.gfe_good c_rDo_good
  · exact FT.gfe_good c_rJump_good
set_option maxRecDepth 100000 in
theorem t_rStep (p : Prg) (s : Sta) : a_rStep.start s_rStep 400 [ap p, as_ s] =
(VC.need (PreOk c_rAt (Prg.of (Prg.cells p), s.pc) [A.agg (Prg.cells p), A.c (D.int IntKind.i64 s.pc)])
(VC.all (v_rAt (Prg.of (Prg.cells p), s.pc)) fun (y2 : Ins) =>
(VC.need (PreOk c_rVal (Prg.of (Prg.cells p), { r0 := s.r0, r1 := s.r1, r2 := s.r2, r3 := s.r3 }, y2.aR, y2.aN) [A.agg (Prg.cells p), A.agg [D.int IntKind.i64 s.r0, D.int IntKind.i64 s.r1, D.int IntKind.i64 s.r2, D.int IntKind.i64 s.r3], A.agg [D.bool y2.aR, D.int IntKind.i64 y2.aN]])
(VC.all (v_rVal (Prg.of (Prg.cells p), { r0 := s.r0, r1 := s.r1, r2 := s.r2, r3 := s.r3 }, y2.aR, y2.aN)) fun (y3 : Int) =>
(VC.need (PreOk c_rVal (Prg.of (Prg.cells p), { r0 := s.r0, r1 := s.r1, r2 := s.r2, r3 := s.r3 }, y2.bR, y2.bN) [A.agg (Prg.cells p), A.agg [D.int IntKind.i64 s.r0, D.int IntKind.i64 s.r1, D.int IntKind.i64 s.r2, D.int IntKind.i64 s.r3], A.agg [D.bool y2.bR, D.int IntKind.i64 y2.bN]])
(VC.all (v_rVal (Prg.of (Prg.cells p), { r0 := s.r0, r1 := s.r1, r2 := s.r2, r3 := s.r3 }, y2.bR, y2.bN)) fun (y4 : Int) =>
(VC.need ((List.all (rowsOn s.mem) fun r ↦ List.length r == (1 : Nat)) = true ∧ (List.all ([] : List (List D)) fun r ↦ List.length r == (1 : Nat)) = true ∧ ((0 : Nat) + List.length (rowsOn s.mem) + (100 : Nat)) * (9 : Nat) ≤ (70368744177664 : Nat))
(VC.need ((List.all (rowsOn s.stack) fun r ↦ List.length r == (1 : Nat)) = true ∧ (List.all ([] : List (List D)) fun r ↦ List.length r == (1 : Nat)) = true ∧ ((0 : Nat) + List.length (rowsOn s.stack) + (100 : Nat)) * (9 : Nat) ≤ (70368744177664 : Nat))
(VC.need (PreOk c_rMask (p.w, IntKind.wrap IntKind.i64 (y3 + y4)) [A.c (D.int IntKind.i64 p.w), A.c (D.int IntKind.i64 (IntKind.wrap IntKind.i64 (y3 + y4)))])
(VC.all (v_rMask (p.w, IntKind.wrap IntKind.i64 (y3 + y4))) fun (y5 : Int) =>
(VC.br (y2.kind == (1 : Int))
 (VC.need (PreOk c_rDo (p.w, y2.op, y3, y4) [A.c (D.int IntKind.i64 p.w), A.c (D.int IntKind.i64 y2.op), A.c (D.int IntKind.i64 y3), A.c (D.int IntKind.i64 y4)])
 (VC.all (v_rDo (p.w, y2.op, y3, y4)) fun (y6 : Int × Bool) =>
 (VC.br (decide (bits BinOp.and IntKind.i64 y2.d (3 : Int) = (0 : Int)))
  (VC.ret (some (RR.tup [Sum.inr [Rc.d (D.int IntKind.i64 y6.fst), Rc.d (D.int IntKind.i64 s.r1), Rc.d (D.int IntKind.i64 s.r2), Rc.d (D.int IntKind.i64 s.r3), Rc.new (1 : Nat) ([] ++ rowsOn s.mem), Rc.new (1 : Nat) ([] ++ rowsOn s.stack), Rc.d (D.int IntKind.i64 (IntKind.wrap IntKind.i64 (s.pc + (1 : Int))))], Sum.inl Rc.nil, Sum.inl (Rc.d (D.int IntKind.i64 (0 : Int)))])))
  (VC.br (decide (bits BinOp.and IntKind.i64 y2.d (3 : Int) = (1 : Int)))
   (VC.ret (some (RR.tup [Sum.inr [Rc.d (D.int IntKind.i64 s.r0), Rc.d (D.int IntKind.i64 y6.fst), Rc.d (D.int IntKind.i64 s.r2), Rc.d (D.int IntKind.i64 s.r3), Rc.new (1 : Nat) ([] ++ rowsOn s.mem), Rc.new (1 : Nat) ([] ++ rowsOn s.stack), Rc.d (D.int IntKind.i64 (IntKind.wrap IntKind.i64 (s.pc + (1 : Int))))], Sum.inl Rc.nil, Sum.inl (Rc.d (D.int IntKind.i64 (0 : Int)))])))
   (VC.br (decide (bits BinOp.and IntKind.i64 y2.d (3 : Int) = (2 : Int)))
    (VC.ret (some (RR.tup [Sum.inr [Rc.d (D.int IntKind.i64 s.r0), Rc.d (D.int IntKind.i64 s.r1), Rc.d (D.int IntKind.i64 y6.fst), Rc.d (D.int IntKind.i64 s.r3), Rc.new (1 : Nat) ([] ++ rowsOn s.mem), Rc.new (1 : Nat) ([] ++ rowsOn s.stack), Rc.d (D.int IntKind.i64 (IntKind.wrap IntKind.i64 (s.pc + (1 : Int))))], Sum.inl Rc.nil, Sum.inl (Rc.d (D.int IntKind.i64 (0 : Int)))])))
    (VC.br (decide (bits BinOp.and IntKind.i64 y2.d (3 : Int) = (3 : Int)))
     (VC.ret (some (RR.tup [Sum.inr [Rc.d (D.int IntKind.i64 s.r0), Rc.d (D.int IntKind.i64 s.r1), Rc.d (D.int IntKind.i64 s.r2), Rc.d (D.int IntKind.i64 y6.fst), Rc.new (1 : Nat) ([] ++ rowsOn s.mem), Rc.new (1 : Nat) ([] ++ rowsOn s.stack), Rc.d (D.int IntKind.i64 (IntKind.wrap IntKind.i64 (s.pc + (1 : Int))))], Sum.inl Rc.nil, Sum.inl (Rc.d (D.int IntKind.i64 (0 : Int)))])))
     VC.ff))))))
 (VC.br (y2.kind == (4 : Int))
  (VC.br (y3 != (0 : Int))
   (VC.br (decide (bits BinOp.and IntKind.i64 y2.d (3 : Int) = (0 : Int)))
    (VC.ret (some (RR.tup [Sum.inr [Rc.d (D.int IntKind.i64 y4), Rc.d (D.int IntKind.i64 s.r1), Rc.d (D.int IntKind.i64 s.r2), Rc.d (D.int IntKind.i64 s.r3), Rc.new (1 : Nat) ([] ++ rowsOn s.mem), Rc.new (1 : Nat) ([] ++ rowsOn s.stack), Rc.d (D.int IntKind.i64 (IntKind.wrap IntKind.i64 (s.pc + (1 : Int))))], Sum.inl Rc.nil, Sum.inl (Rc.d (D.int IntKind.i64 (0 : Int)))])))
    (VC.br (decide (bits BinOp.and IntKind.i64 y2.d (3 : Int) = (1 : Int)))
     (VC.ret (some (RR.tup [Sum.inr [Rc.d (D.int IntKind.i64 s.r0), Rc.d (D.int IntKind.i64 y4), Rc.d (D.int IntKind.i64 s.r2), Rc.d (D.int IntKind.i64 s.r3), Rc.new (1 : Nat) ([] ++ rowsOn s.mem), Rc.new (1 : Nat) ([] ++ rowsOn s.stack), Rc.d (D.int IntKind.i64 (IntKind.wrap IntKind.i64 (s.pc + (1 : Int))))], Sum.inl Rc.nil, Sum.inl (Rc.d (D.int IntKind.i64 (0 : Int)))])))
     (VC.br (decide (bits BinOp.and IntKind.i64 y2.d (3 : Int) = (2 : Int)))
      (VC.ret (some (RR.tup [Sum.inr [Rc.d (D.int IntKind.i64 s.r0), Rc.d (D.int IntKind.i64 s.r1), Rc.d (D.int IntKind.i64 y4), Rc.d (D.int IntKind.i64 s.r3), Rc.new (1 : Nat) ([] ++ rowsOn s.mem), Rc.new (1 : Nat) ([] ++ rowsOn s.stack), Rc.d (D.int IntKind.i64 (IntKind.wrap IntKind.i64 (s.pc + (1 : Int))))], Sum.inl Rc.nil, Sum.inl (Rc.d (D.int IntKind.i64 (0 : Int)))])))
      (VC.br (decide (bits BinOp.and IntKind.i64 y2.d (3 : Int) = (3 : Int)))
       (VC.ret (some (RR.tup [Sum.inr [Rc.d (D.int IntKind.i64 s.r0), Rc.d (D.int IntKind.i64 s.r1), Rc.d (D.int IntKind.i64 s.r2), Rc.d (D.int IntKind.i64 y4), Rc.new (1 : Nat) ([] ++ rowsOn s.mem), Rc.new (1 : Nat) ([] ++ rowsOn s.stack), Rc.d (D.int IntKind.i64 (IntKind.wrap IntKind.i64 (s.pc + (1 : Int))))], Sum.inl Rc.nil, Sum.inl (Rc.d (D.int IntKind.i64 (0 : Int)))])))
       VC.ff))))
   (VC.ret (some (RR.tup [Sum.inr [Rc.d (D.int IntKind.i64 s.r0), Rc.d (D.int IntKind.i64 s.r1), Rc.d (D.int IntKind.i64 s.r2), Rc.d (D.int IntKind.i64 s.r3), Rc.new (1 : Nat) ([] ++ rowsOn s.mem), Rc.new (1 : Nat) ([] ++ rowsOn s.stack), Rc.d (D.int IntKind.i64 (IntKind.wrap IntKind.i64 (s.pc + (1 : Int))))], Sum.inl Rc.nil, Sum.inl (Rc.d (D.int IntKind.i64 (0 : Int)))]))))
  (VC.br (y2.kind == (2 : Int))
   (VC.br (decide ((↑(List.length (rowsOn s.mem)) : Int) ≤ y5))
    (VC.ret (some (RR.tup [Sum.inr [Rc.d (D.int IntKind.i64 s.r0), Rc.d (D.int IntKind.i64 s.r1), Rc.d (D.int IntKind.i64 s.r2), Rc.d (D.int IntKind.i64 s.r3), Rc.d (D.sl (rowsOn s.mem)), Rc.d (D.sl (rowsOn s.stack)), Rc.d (D.int IntKind.i64 s.pc)], Sum.inl Rc.nil, Sum.inl (Rc.d (D.int IntKind.i64 (2 : Int)))])))
    (VC.need ((0 : Int) ≤ y5 ∧ y5 < (↑(List.length (rowsOn s.mem)) : Int) ∧ List.length (rowAt (rowsOn s.mem) (Int.toNat y5)) = (1 : Nat))
    (VC.need (okSh [Kd.int IntKind.i64] (rowAt (rowsOn s.mem) (Int.toNat y5)))
    (VC.br (decide (bits BinOp.and IntKind.i64 y2.d (3 : Int) = (0 : Int)))
     (VC.ret (some (RR.tup [Sum.inr [Rc.d (D.int IntKind.i64 (asInt (List.getD (rowAt (rowsOn s.mem) (Int.toNat y5)) (0 : Nat) D.nilp))), Rc.d (D.int IntKind.i64 s.r1), Rc.d (D.int IntKind.i64 s.r2), Rc.d (D.int IntKind.i64 s.r3), Rc.new (1 : Nat) ([] ++ rowsOn s.mem), Rc.new (1 : Nat) ([] ++ rowsOn s.stack), Rc.d (D.int IntKind.i64 (IntKind.wrap IntKind.i64 (s.pc + (1 : Int))))], Sum.inl (Rc.new (2 : Nat) [[D.int IntKind.i64 (1 : Int), D.int IntKind.i64 y5]]), Sum.inl (Rc.d (D.int IntKind.i64 (0 : Int)))])))
     (VC.br (decide (bits BinOp.and IntKind.i64 y2.d (3 : Int) = (1 : Int)))
      (VC.ret (some (RR.tup [Sum.inr [Rc.d (D.int IntKind.i64 s.r0), Rc.d (D.int IntKind.i64 (asInt (List.getD (rowAt (rowsOn s.mem) (Int.toNat y5)) (0 : Nat) D.nilp))), Rc.d (D.int IntKind.i64 s.r2), Rc.d (D.int IntKind.i64 s.r3), Rc.new (1 : Nat) ([] ++ rowsOn s.mem), Rc.new (1 : Nat) ([] ++ rowsOn s.stack), Rc.d (D.int IntKind.i64 (IntKind.wrap IntKind.i64 (s.pc + (1 : Int))))], Sum.inl (Rc.new (2 : Nat) [[D.int IntKind.i64 (1 : Int), D.int IntKind.i64 y5]]), Sum.inl (Rc.d (D.int IntKind.i64 (0 : Int)))])))
      (VC.br (decide (bits BinOp.and IntKind.i64 y2.d (3 : Int) = (2 : Int)))
       (VC.ret (some (RR.tup [Sum.inr [Rc.d (D.int IntKind.i64 s.r0), Rc.d (D.int IntKind.i64 s.r1), Rc.d (D.int IntKind.i64 (asInt (List.getD (rowAt (rowsOn s.mem) (Int.toNat y5)) (0 : Nat) D.nilp))), Rc.d (D.int IntKind.i64 s.r3), Rc.new (1 : Nat) ([] ++ rowsOn s.mem), Rc.new (1 : Nat) ([] ++ rowsOn s.stack), Rc.d (D.int IntKind.i64 (IntKind.wrap IntKind.i64 (s.pc + (1 : Int))))], Sum.inl (Rc.new (2 : Nat) [[D.int IntKind.i64 (1 : Int), D.int IntKind.i64 y5]]), Sum.inl (Rc.d (D.int IntKind.i64 (0 : Int)))])))
       (VC.br (decide (bits BinOp.and IntKind.i64 y2.d (3 : Int) = (3 : Int)))
        (VC.ret (some (RR.tup [Sum.inr [Rc.d (D.int IntKind.i64 s.r0), Rc.d (D.int IntKind.i64 s.r1), Rc.d (D.int IntKind.i64 s.r2), Rc.d (D.int IntKind.i64 (asInt (List.getD (rowAt (rowsOn s.mem) (Int.toNat y5)) (0 : Nat) D.nilp))), Rc.new (1 : Nat) ([] ++ rowsOn s.mem), Rc.new (1 : Nat) ([] ++ rowsOn s.stack), Rc.d (D.int IntKind.i64 (IntKind.wrap IntKind.i64 (s.pc + (1 : Int))))], Sum.inl (Rc.new (2 : Nat) [[D.int IntKind.i64 (1 : Int), D.int IntKind.i64 y5]]), Sum.inl (Rc.d (D.int IntKind.i64 (0 : Int)))])))
        VC.ff)))))))
   (VC.br (y2.kind == (3 : Int))
    (VC.br (decide ((↑(List.length (rowsOn s.mem)) : Int) ≤ y5))
     (VC.ret (some (RR.tup [Sum.inr [Rc.d (D.int IntKind.i64 s.r0), Rc.d (D.int IntKind.i64 s.r1), Rc.d (D.int IntKind.i64 s.r2), Rc.d (D.int IntKind.i64 s.r3), Rc.d (D.sl (rowsOn s.mem)), Rc.d (D.sl (rowsOn s.stack)), Rc.d (D.int IntKind.i64 s.pc)], Sum.inl Rc.nil, Sum.inl (Rc.d (D.int IntKind.i64 (2 : Int)))])))
     (VC.br (decide (bits BinOp.and IntKind.i64 y2.d (3 : Int) = (0 : Int)))
      (VC.need ((0 : Int) ≤ y5 ∧ y5 < (↑((0 : Nat) + List.length (rowsOn s.mem)) : Int))
      (VC.need (Int.toNat y5 < List.length ([] ++ rowsOn s.mem) ∧ List.length (rowAt ([] ++ rowsOn s.mem) (Int.toNat y5)) = (1 : Nat) ∧ (1 : Nat) ≤ (1 : Nat))
      (VC.ret (some (RR.tup [Sum.inr [Rc.d (D.int IntKind.i64 s.r0), Rc.d (D.int IntKind.i64 s.r1), Rc.d (D.int IntKind.i64 s.r2), Rc.d (D.int IntKind.i64 s.r3), Rc.new (1 : Nat) (List.set ([] ++ rowsOn s.mem) (Int.toNat y5) (splice (rowAt ([] ++ rowsOn s.mem) (Int.toNat y5)) (0 : Nat) [D.int IntKind.i64 s.r0])), Rc.new (1 : Nat) ([] ++ rowsOn s.stack), Rc.d (D.int IntKind.i64 (IntKind.wrap IntKind.i64 (s.pc + (1 : Int))))], Sum.inl (Rc.new (2 : Nat) [[D.int IntKind.i64 (2 : Int), D.int IntKind.i64 y5]]), Sum.inl (Rc.d (D.int IntKind.i64 (0 : Int)))])))))
      (VC.br (decide (bits BinOp.and IntKind.i64 y2.d (3 : Int) = (1 : Int)))
       (VC.need ((0 : Int) ≤ y5 ∧ y5 < (↑((0 : Nat) + List.length (rowsOn s.mem)) : Int))
       (VC.need (Int.toNat y5 < List.length ([] ++ rowsOn s.mem) ∧ List.length (rowAt ([] ++ rowsOn s.mem) (Int.toNat y5)) = (1 : Nat) ∧ (1 : Nat) ≤ (1 : Nat))
       (VC.ret (some (RR.tup [Sum.inr [Rc.d (D.int IntKind.i64 s.r0), Rc.d (D.int IntKind.i64 s.r1), Rc.d (D.int IntKind.i64 s.r2), Rc.d (D.int IntKind.i64 s.r3), Rc.new (1 : Nat) (List.set ([] ++ rowsOn s.mem) (Int.toNat y5) (splice (rowAt ([] ++ rowsOn s.mem) (Int.toNat y5)) (0 : Nat) [D.int IntKind.i64 s.r1])), Rc.new (1 : Nat) ([] ++ rowsOn s.stack), Rc.d (D.int IntKind.i64 (IntKind.wrap IntKind.i64 (s.pc + (1 : Int))))], Sum.inl (Rc.new (2 : Nat) [[D.int IntKind.i64 (2 : Int), D.int IntKind.i64 y5]]), Sum.inl (Rc.d (D.int IntKind.i64 (0 : Int)))])))))
       (VC.br (decide (bits BinOp.and IntKind.i64 y2.d (3 : Int) = (2 : Int)))
        (VC.need ((0 : Int) ≤ y5 ∧ y5 < (↑((0 : Nat) + List.length (rowsOn s.mem)) : Int))
        (VC.need (Int.toNat y5 < List.length ([] ++ rowsOn s.mem) ∧ List.length (rowAt ([] ++ rowsOn s.mem) (Int.toNat y5)) = (1 : Nat) ∧ (1 : Nat) ≤ (1 : Nat))
        (VC.ret (some (RR.tup [Sum.inr [Rc.d (D.int IntKind.i64 s.r0), Rc.d (D.int IntKind.i64 s.r1), Rc.d (D.int IntKind.i64 s.r2), Rc.d (D.int IntKind.i64 s.r3), Rc.new (1 : Nat) (List.set ([] ++ rowsOn s.mem) (Int.toNat y5) (splice (rowAt ([] ++ rowsOn s.mem) (Int.toNat y5)) (0 : Nat) [D.int IntKind.i64 s.r2])), Rc.new (1 : Nat) ([] ++ rowsOn s.stack), Rc.d (D.int IntKind.i64 (IntKind.wrap IntKind.i64 (s.pc + (1 : Int))))], Sum.inl (Rc.new (2 : Nat) [[D.int IntKind.i64 (2 : Int), D.int IntKind.i64 y5]]), Sum.inl (Rc.d (D.int IntKind.i64 (0 : Int)))])))))
        (VC.br (decide (bits BinOp.and IntKind.i64 y2.d (3 : Int) = (3 : Int)))
         (VC.need ((0 : Int) ≤ y5 ∧ y5 < (↑((0 : Nat) + List.length (rowsOn s.mem)) : Int))
         (VC.need (Int.toNat y5 < List.length ([] ++ rowsOn s.mem) ∧ List.length (rowAt ([] ++ rowsOn s.mem) (Int.toNat y5)) = (1 : Nat) ∧ (1 : Nat) ≤ (1 : Nat))
         (VC.ret (some (RR.tup [Sum.inr [Rc.d (D.int IntKind.i64 s.r0), Rc.d (D.int IntKind.i64 s.r1), Rc.d (D.int IntKind.i64 s.r2), Rc.d (D.int IntKind.i64 s.r3), Rc.new (1 : Nat) (List.set ([] ++ rowsOn s.mem) (Int.toNat y5) (splice (rowAt ([] ++ rowsOn s.mem) (Int.toNat y5)) (0 : Nat) [D.int IntKind.i64 s.r3])), Rc.new (1 : Nat) ([] ++ rowsOn s.stack), Rc.d (D.int IntKind.i64 (IntKind.wrap IntKind.i64 (s.pc + (1 : Int))))], Sum.inl (Rc.new (2 : Nat) [[D.int IntKind.i64 (2 : Int), D.int IntKind.i64 y5]]), Sum.inl (Rc.d (D.int IntKind.i64 (0 : Int)))])))))
         VC.ff)))))
    (VC.br (y2.kind == (5 : Int))
     (VC.need (PreOk c_rDo (p.w, y2.op, y3, y4) [A.c (D.int IntKind.i64 p.w), A.c (D.int IntKind.i64 y2.op), A.c (D.int IntKind.i64 y3), A.c (D.int IntKind.i64 y4)])
     (VC.all (v_rDo (p.w, y2.op, y3, y4)) fun (y6 : Int × Bool) =>
     (VC.br (y6.fst != (0 : Int))
      (VC.ret (some (RR.tup [Sum.inr [Rc.d (D.int IntKind.i64 s.r0), Rc.d (D.int IntKind.i64 s.r1), Rc.d (D.int IntKind.i64 s.r2), Rc.d (D.int IntKind.i64 s.r3), Rc.new (1 : Nat) ([] ++ rowsOn s.mem), Rc.new (1 : Nat) ([] ++ rowsOn s.stack), Rc.d (D.int IntKind.i64 y2.target)], Sum.inl (Rc.new (2 : Nat) [[D.int IntKind.i64 (3 : Int), D.int IntKind.i64 y2.target]]), Sum.inl (Rc.d (D.int IntKind.i64 (0 : Int)))])))
      (VC.ret (some (RR.tup [Sum.inr [Rc.d (D.int IntKind.i64 s.r0), Rc.d (D.int IntKind.i64 s.r1), Rc.d (D.int IntKind.i64 s.r2), Rc.d (D.int IntKind.i64 s.r3), Rc.new (1 : Nat) ([] ++ rowsOn s.mem), Rc.new (1 : Nat) ([] ++ rowsOn s.stack), Rc.d (D.int IntKind.i64 (IntKind.wrap IntKind.i64 (s.pc + (1 : Int))))], Sum.inl (Rc.new (2 : Nat) [[D.int IntKind.i64 (3 : Int), D.int IntKind.i64 (IntKind.wrap IntKind.i64 (s.pc + (1 : Int)))]]), Sum.inl (Rc.d (D.int IntKind.i64 (0 : Int)))]))))))
     (VC.br (y2.kind == (6 : Int))
      (VC.ret (some (RR.tup [Sum.inr [Rc.d (D.int IntKind.i64 s.r0), Rc.d (D.int IntKind.i64 s.r1), Rc.d (D.int IntKind.i64 s.r2), Rc.d (D.int IntKind.i64 s.r3), Rc.new (1 : Nat) ([] ++ rowsOn s.mem), Rc.new (1 : Nat) ([] ++ rowsOn s.stack), Rc.d (D.int IntKind.i64 y2.target)], Sum.inl Rc.nil, Sum.inl (Rc.d (D.int IntKind.i64 (0 : Int)))])))
      (VC.br (y2.kind == (7 : Int))
       (VC.need (PreOk c_rJump (Prg.of (Prg.cells p), y3) [A.agg (Prg.cells p), A.c (D.int IntKind.i64 y3)])
       (VC.all (v_rJump (Prg.of (Prg.cells p), y3)) fun (y6 : Int) =>
       (VC.ret (some (RR.tup [Sum.inr [Rc.d (D.int IntKind.i64 s.r0), Rc.d (D.int IntKind.i64 s.r1), Rc.d (D.int IntKind.i64 s.r2), Rc.d (D.int IntKind.i64 s.r3), Rc.new (1 : Nat) ([] ++ rowsOn s.mem), Rc.new (1 : Nat) ([] ++ rowsOn s.stack), Rc.d (D.int IntKind.i64 y6)], Sum.inl (Rc.new (2 : Nat) [[D.int IntKind.i64 (3 : Int), D.int IntKind.i64 y6]]), Sum.inl (Rc.d (D.int IntKind.i64 (0 : Int)))])))))
       (VC.br (y2.kind == (8 : Int))
        (VC.br (decide ((4 : Int) ≤ (↑(List.length (rowsOn s.stack)) : Int)))
         (VC.ret (some (RR.tup [Sum.inr [Rc.d (D.int IntKind.i64 s.r0), Rc.d (D.int IntKind.i64 s.r1), Rc.d (D.int IntKind.i64 s.r2), Rc.d (D.int IntKind.i64 s.r3), Rc.d (D.sl (rowsOn s.mem)), Rc.d (D.sl (rowsOn s.stack)), Rc.d (D.int IntKind.i64 s.pc)], Sum.inl Rc.nil, Sum.inl (Rc.d (D.int IntKind.i64 (2 : Int)))])))
         (VC.need ((List.all [[D.int IntKind.i64 (IntKind.wrap IntKind.i64 (s.pc + (1 : Int)))]] fun r ↦ List.length r == (1 : Nat)) = true ∧ (List.all ([] ++ rowsOn s.stack) fun r ↦ List.length r == (1 : Nat)) = true ∧ (List.length ([] ++ rowsOn s.stack) + List.length [[D.int IntKind.i64 (IntKind.wrap IntKind.i64 (s.pc + (1 : Int)))]] + (100 : Nat)) * (9 : Nat) ≤ (70368744177664 : Nat))
         (VC.ret (some (RR.tup [Sum.inr [Rc.d (D.int IntKind.i64 s.r0), Rc.d (D.int IntKind.i64 s.r1), Rc.d (D.int IntKind.i64 s.r2), Rc.d (D.int IntKind.i64 s.r3), Rc.new (1 : Nat) ([] ++ rowsOn s.mem), Rc.new (1 : Nat) ([] ++ rowsOn s.stack ++ [[D.int IntKind.i64 (IntKind.wrap IntKind.i64 (s.pc + (1 : Int)))]]), Rc.d (D.int IntKind.i64 y2.target)], Sum.inl Rc.nil, Sum.inl (Rc.d (D.int IntKind.i64 (0 : Int)))])))))
        (VC.br (y2.kind == (9 : Int))
         (VC.br ((↑(List.length (rowsOn s.stack)) : Int) == (0 : Int))
          (VC.ret (some (RR.tup [Sum.inr [Rc.d (D.int IntKind.i64 s.r0), Rc.d (D.int IntKind.i64 s.r1), Rc.d (D.int IntKind.i64 s.r2), Rc.d (D.int IntKind.i64 s.r3), Rc.d (D.sl (rowsOn s.mem)), Rc.d (D.sl (rowsOn s.stack)), Rc.d (D.int IntKind.i64 s.pc)], Sum.inl Rc.nil, Sum.inl (Rc.d (D.int IntKind.i64 (2 : Int)))])))
          (VC.need ((0 : Int) ≤ IntKind.wrap IntKind.i64 ((↑(List.length (rowsOn s.stack)) : Int) - (1 : Int)) ∧ IntKind.wrap IntKind.i64 ((↑(List.length (rowsOn s.stack)) : Int) - (1 : Int)) < (↑(List.length (rowsOn s.stack)) : Int) ∧ List.length (rowAt (rowsOn s.stack) (Int.toNat (IntKind.wrap IntKind.i64 ((↑(List.length (rowsOn s.stack)) : Int) - (1 : Int))))) = (1 : Nat))
          (VC.need (okSh [Kd.int IntKind.i64] (rowAt (rowsOn s.stack) (Int.toNat (IntKind.wrap IntKind.i64 ((↑(List.length (rowsOn s.stack)) : Int) - (1 : Int))))))
          (VC.need ((0 : Int) ≤ IntKind.wrap IntKind.i64 ((↑((0 : Nat) + List.length (rowsOn s.stack)) : Int) - (1 : Int)) ∧ IntKind.wrap IntKind.i64 ((↑((0 : Nat) + List.length (rowsOn s.stack)) : Int) - (1 : Int)) ≤ (↑(List.length ([] ++ rowsOn s.stack)) : Int))
          (VC.ret (some (RR.tup [Sum.inr [Rc.d (D.int IntKind.i64 s.r0), Rc.d (D.int IntKind.i64 s.r1), Rc.d (D.int IntKind.i64 s.r2), Rc.d (D.int IntKind.i64 s.r3), Rc.new (1 : Nat) ([] ++ rowsOn s.mem), Rc.new (1 : Nat) (List.take (Int.toNat (IntKind.wrap IntKind.i64 ((↑((0 : Nat) + List.length (rowsOn s.stack)) : Int) - (1 : Int)))) ([] ++ rowsOn s.stack)), Rc.d (D.int IntKind.i64 (asInt (List.getD (rowAt (rowsOn s.stack) (Int.toNat (IntKind.wrap IntKind.i64 ((↑(List.length (rowsOn s.stack)) : Int) - (1 : Int))))) (0 : Nat) D.nilp)))], Sum.inl (Rc.new (2 : Nat) [[D.int IntKind.i64 (3 : Int), D.int IntKind.i64 (asInt (List.getD (rowAt (rowsOn s.stack) (Int.toNat (IntKind.wrap IntKind.i64 ((↑(List.length (rowsOn s.stack)) : Int) - (1 : Int))))) (0 : Nat) D.nilp))]]), Sum.inl (Rc.d (D.int IntKind.i64 (0 : Int)))])))))))
         (VC.br (y2.kind == (10 : Int))
          (VC.ret (some (RR.tup [Sum.inr [Rc.d (D.int IntKind.i64 s.r0), Rc.d (D.int IntKind.i64 s.r1), Rc.d (D.int IntKind.i64 s.r2), Rc.d (D.int IntKind.i64 s.r3), Rc.new (1 : Nat) ([] ++ rowsOn s.mem), Rc.new (1 : Nat) ([] ++ rowsOn s.stack), Rc.d (D.int IntKind.i64 (IntKind.wrap IntKind.i64 (s.pc + (1 : Int))))], Sum.inl Rc.nil, Sum.inl (Rc.d (D.int IntKind.i64 (0 : Int)))])))
          (VC.br (y2.kind == (11 : Int))
           (VC.ret (some (RR.tup [Sum.inr [Rc.d (D.int IntKind.i64 s.r0), Rc.d (D.int IntKind.i64 s.r1), Rc.d (D.int IntKind.i64 s.r2), Rc.d (D.int IntKind.i64 s.r3), Rc.d (D.sl (rowsOn s.mem)), Rc.d (D.sl (rowsOn s.stack)), Rc.d (D.int IntKind.i64 s.pc)], Sum.inl Rc.nil, Sum.inl (Rc.d (D.int IntKind.i64 (1 : Int)))])))
           (VC.ret (some (RR.tup [Sum.inr [Rc.d (D.int IntKind.i64 s.r0), Rc.d (D.int IntKind.i64 s.r1), Rc.d (D.int IntKind.i64 s.r2), Rc.d (D.int IntKind.i64 s.r3), Rc.d (D.sl (rowsOn s.mem)), Rc.d (D.sl (rowsOn s.stack)), Rc.d (D.int IntKind.i64 s.pc)], Sum.inl Rc.nil, Sum.inl (Rc.d (D.int IntKind.i64 (2 : Int)))])))))))))))))))))))))))) := by kernel_rfl
structure InsOk (i : Ins) : Prop where
  d : 0 ≤ i.d ∧ i.d < 4
  aN : 0 ≤ i.aN ∧ i.aN < 4
  bN : 0 ≤ i.bN ∧ i.bN < 4
structure PrgOk (p : Prg) : Prop where
  w : okW p.w
  mems : Mems p.mems
  len : p.ins.length ≤ 1000000
  ins : ∀ i ∈ p.ins, InsOk i
structure StaOk (p : Prg) (s : Sta) : Prop where
  regs : ∀ r, 0 ≤ r ∧ r < 4 → 0 ≤ s.reg r ∧ s.reg r < 2 ^ p.w.toNat
  vals : ∀ x ∈ s.mem, 0 ≤ x ∧ x < 2 ^ p.w.toNat
  mem : (s.mem.length : Int) = cellsS p.mems
  stack : s.stack.length ≤ 1000000
theorem at_ok {p : Prg} (hp : PrgOk p) (pc : Int) : InsOk (atS p.ins pc) := by
  unfold atS
  split
  · exact ⟨by decide, by decide, by decide⟩
  · exact hp.ins _ (rd_mem _ _ (by omega) (by omega))
theorem StaOk.small {p : Prg} {s : Sta} (hp : PrgOk p) (h : StaOk p s) : SmallS s := by
  have := (places_len p hp.mems).2
  have := h.mem
  exact ⟨by omega, h.stack⟩
def Sta.regs (s : Sta) : Regs := ⟨s.r0, s.r1, s.r2, s.r3⟩
theorem get_regs (s : Sta) {r : Int} (h : 0 ≤ r ∧ r < 4) : s.regs.get (r % 4) = s.reg r := by
  have : r = 0 ∨ r = 1 ∨ r = 2 ∨ r = 3 := by omega
  rcases this with rfl | rfl | rfl | rfl <;> rfl
theorem valR_eq {p : Prg} {s : Sta} (hp : PrgOk p) (hs : StaOk p s) (r : Bool) {n : Int} (hn : 0 ≤ n ∧ n < 4) : valR p.w s.regs r n = valS p.w s r n := by
  unfold valR valS
  split
  · rw [get_regs s hn, maskS_id hp.w (hs.regs n hn).1 (hs.regs n hn).2]
  · rfl
def stepB (p : Prg) (s : Sta) (i : Ins) (a b at_ : Int) : Sta × List Obs × Int :=
  if i.kind = 1 ∨ i.kind = 4 then ({ s.setReg i.d (valueS p.w i a b (maskS p.w (s.reg i.d))) with pc := s.pc + 1 }, [], 0)
  else if i.kind = 2 then if at_ < cellsS p.mems ∧ at_ < s.mem.length then ({ s.setReg i.d (rd s.mem at_) with pc := s.pc + 1 }, [⟨1, at_⟩], 0) else (s, [], 2)
  else if i.kind = 3 then if at_ < cellsS p.mems ∧ at_ < s.mem.length then ({ s with mem := s.mem.set at_.toNat (maskS p.w (s.reg i.d)), pc := s.pc + 1 }, [⟨2, at_⟩], 0) else (s, [], 2)
  else if i.kind = 5 ∨ i.kind = 7 then ({ s with pc := wayS p.w p.ins.length i s.pc a b }, [⟨3, wayS p.w p.ins.length i s.pc a b⟩], 0)
  else if i.kind = 6 then ({ s with pc := i.target }, [], 0)
  else if i.kind = 8 then if 4 ≤ s.stack.length then (s, [], 2) else ({ s with stack := s.stack ++ [s.pc + 1], pc := i.target }, [], 0)
  else if i.kind = 9 then if s.stack.length = 0 then (s, [], 2) else ({ s with stack := s.stack.dropLast, pc := rd s.stack (s.stack.length - 1) }, [⟨3, rd s.stack (s.stack.length - 1)⟩], 0)
  else if i.kind = 10 then ({ s with pc := s.pc + 1 }, [], 0)
  else if i.kind = 11 then (s, [], 1)
  else (s, [], 2)
theorem stepS_B (p : Prg) (s : Sta) : stepS p s = stepB p s (atS p.ins s.pc) (valS p.w s (atS p.ins s.pc).aR (atS p.ins s.pc).aN) (valS p.w s (atS p.ins s.pc).bR (atS p.ins s.pc).bN) (maskS p.w (valS p.w s (atS p.ins s.pc).aR (atS p.ins s.pc).aN + valS p.w s (atS p.ins s.pc).bR (atS p.ins s.pc).bN)) := rfl
theorem setReg_self (s : Sta) {d : Int} (h : 0 ≤ d ∧ d < 4) : s.setReg d (s.reg d) = s := by
  have : d = 0 ∨ d = 1 ∨ d = 2 ∨ d = 3 := by omega
  rcases this with rfl | rfl | rfl | rfl <;> rfl
def c_rStep : FT (Prg × Sta) := ⟨58, fun x => [ap x.1, as_ x.2], rdPS, fun x => PrgOk x.1 ∧ StaOk x.1 x.2, fun x => rstep (stepS x.1 x.2), true, fun x => by simp [ap, as_, rdPS]⟩
theorem c_rStep_good : c_rStep.fe.Good Try.prog := by
  refine FT.good c_rStep ⟨Try.f58, by kernel_rfl, by decide +kernel, by kernel_rfl⟩ (fun ⟨p, s⟩ => by first | rfl | simp [c_rStep, rrRef, rrun, rstep, rins, rnum, rby, rss, rnewI, rnewE, rstab, rplaces, ri, rb, rib, Sta.fresh]) fun ⟨p, s⟩ hp => ?_
  refine acalls_leD s_rStep_sound (fn := Try.f58) (a := a_rStep) (nargs := 2) (tbl := []) (by kernel_rfl) (by kernel_rfl) rfl (m := 400) ?_
  show VC.holds _ _ _ (a_rStep.start s_rStep 400 [ap p, as_ s])
  rw [t_rStep]
  try simp only [asRows_sl, asInt_int, asBool_bool, asStr_str, listOf_rowsOn, List.drop_zero, Prg.eta, Sta.eta, rowsOn_length, getD_drop, Nat.reduceAdd, rd_int, rd_PMem_name, rd_PMem_secret, rd_PMem_n, rd_PLabel_name, rd_PLabel_at_, rd_Ins_kind, rd_Ins_op, rd_Ins_d, rd_Ins_aR, rd_Ins_aN, rd_Ins_bR, rd_Ins_bN, rd_Ins_name, rd_Ins_target, rd_Ent_pc, rd_Ent_val, rd_Ent_addr, rd_Ent_fro, rd_Ent_next, rd_Ent_done, rd_Ent_known, rd_Ent_fault, rd_Place_reg, rd_Place_n, rd_Place_secret, rd_Obs_kind, rd_Obs_at_, rd_Dir_kind, rd_Dir_n, Prg.of_cells, Sta.of_cells]
  try simp only [c_rStep] at hp
  obtain ⟨hp0, hs⟩ := hp
  have hsm := hs.small hp0
  have hiok := at_ok hp0 s.pc
  have e : c_rStep.ans (p, s) = rstep (stepS p s) := rfl
  rw [e, stepS_B]
  refine ⟨PreOk.mk trivial rfl, all_holds fun i e4 => ?_⟩
  replace e4 : i = atS p.ins s.pc := e4
  rw [← e4] at hiok ⊢
  have hr : i.kind ≠ 12 → IntKind.wrap .i64 (s.pc + 1) = s.pc + 1 := fun h => by
    have := at_range (l := p.ins) (pc := s.pc) (by rw [← e4]; exact h)
    have := hp0.len
    exact wrap_small _ (by omega) (by omega)
  refine ⟨PreOk.mk trivial rfl, all_holds fun a ea => ?_⟩
  replace ea : a = valS p.w s i.aR i.aN := ea.trans (valR_eq hp0 hs i.aR hiok.aN)
  refine ⟨PreOk.mk trivial rfl, all_holds fun b eb => ?_⟩
  replace eb : b = valS p.w s i.bR i.bN := eb.trans (valR_eq hp0 hs i.bR hiok.bN)
  have ha := valS_range p.w s i.aR i.aN
  have hb := valS_range p.w s i.bR i.bN
  rw [← ea, ← eb] at *
  rw [wrap_small (a + b) (by omega) (by omega)]
  have hd := hiok.d
  have hd3 : bits .and .i64 i.d 3 = i.d := by rw [and3]; omega
  rw [hd3]
  have hmd := maskS_id hp0.w (hs.regs i.d hd).1 (hs.regs i.d hd).2
  clear e e4 ea eb
  obtain ⟨hm1, hm2⟩ := hsm
  have hc := hs.mem
  refine ⟨⟨all2 _ rfl, rfl, by simp; omega⟩, ⟨⟨all2 _ rfl, rfl, by simp; omega⟩, ⟨PreOk.mk trivial rfl, all_holds fun at_ eA => ?_⟩⟩⟩
  have hA : 0 ≤ at_ := by rw [eA]; exact (maskS_range _ _).1
  replace eA : maskS p.w (a + b) = at_ := eA.symm
  rw [eA]
  have hself := setReg_self s hd
  have hcl : cellsS p.mems = s.mem.length := hc.symm
  clear hc
  have m0 : maskS p.w s.r0 = s.r0 := maskS_id hp0.w (hs.regs 0 (by decide)).1 (hs.regs 0 (by decide)).2
  have m1 : maskS p.w s.r1 = s.r1 := maskS_id hp0.w (hs.regs 1 (by decide)).1 (hs.regs 1 (by decide)).2
  have m2 : maskS p.w s.r2 = s.r2 := maskS_id hp0.w (hs.regs 2 (by decide)).1 (hs.regs 2 (by decide)).2
  have m3 : maskS p.w s.r3 = s.r3 := maskS_id hp0.w (hs.regs 3 (by decide)).1 (hs.regs 3 (by decide)).2
  have hset : at_ < s.mem.length → ∀ v, List.set (rowsOn s.mem) (Int.toNat at_) (splice (rowAt (rowsOn s.mem) (Int.toNat at_)) 0 [.int .i64 v]) = rowsOn (s.mem.set (Int.toNat at_) v) := fun h v => (OnL.set (R := rowsOn s.mem) (n := s.mem.length) (l := s.mem) ⟨rfl, rfl⟩ hA h v).1
  clear eA
  have et : List.take (Int.toNat ((s.stack.length : Int) - 1)) (rowsOn s.stack) = rowsOn s.stack.dropLast := by
    rw [show Int.toNat ((s.stack.length : Int) - 1) = s.stack.length - 1 by omega, List.dropLast_eq_take]
    unfold rowsOn
    rw [List.map_take]
  have es : rowsOn s.stack ++ [[D.int .i64 (s.pc + 1)]] = rowsOn (s.stack ++ [s.pc + 1]) := rowsOn_snoc _ _
  have hl1 : s.stack.length ≤ 1000000 := hs.stack
  have hw1 : IntKind.wrap .i64 ((s.stack.length : Int) - 1) = (s.stack.length : Int) - 1 := wrap_small _ (by omega) (by omega)
  simp only [List.nil_append, Nat.zero_add, hw1, et]
  repeat' first
    | refine br_not ?_
    | refine br_dec (fun _ => ?_) (fun _ => ?_)
    | refine br_beq (fun _ => ?_) (fun _ => ?_)
    | refine br_bne (fun _ => ?_) (fun _ => ?_)
    | refine br_holds (fun _ => ?_) (fun _ => ?_)
    | refine ⟨PreOk.mk ?_ rfl, ?_⟩
    | refine ⟨idx_ok _ _ _ rfl (by omega) (by omega), ?_⟩
    | refine ⟨okSh_ok _ _ _ (fun _ => rfl) (by omega) (by omega), ?_⟩
    | refine ⟨okSh_okD _ _ _ _ (fun _ => rfl) (by omega) (by omega), ?_⟩
    | refine ⟨aload_ok _ _ rfl (fun _ => rfl) (by omega) (by omega), ?_⟩
    | refine ⟨aload_okD _ _ _ rfl (fun _ => rfl) (by omega) (by omega), ?_⟩
    | refine ⟨astore_ok (by assumption) rfl (by omega) (by omega) (by decide), ?_⟩
    | refine ⟨app_ok (by assumption) rfl rfl (by simp only [List.length_cons, List.length_nil]; omega), ?_⟩
    | refine need_holds ?_ fun _ => ?_
    | refine all_holds fun y hy => ?_
    | refine ret_leD ?_
  all_goals subst_vars
  all_goals try simp only [v_rDo, v_rJump] at *
  all_goals try exact trivial
  all_goals try (exfalso; omega)
  all_goals try exact idx_ok _ _ _ rfl (by omega) (by omega)
  all_goals try exact ⟨by omega, by omega⟩
  all_goals try exact ⟨by rw [rowsOn_length]; omega, (idx_ok s.mem at_ 1 rfl hA (by omega)).2.2, by decide⟩
  all_goals try exact ⟨all2 _ rfl, by omega, by omega, by omega⟩
  all_goals try exact ⟨by omega, by rw [rowsOn_length]; omega⟩
  all_goals try exact ⟨all2 _ rfl, by omega, by omega, by rw [rowsOn_length]; omega⟩
  all_goals try exact ⟨rfl, all2 _ rfl, by simp; omega⟩
  all_goals try simp only [← Int.not_lt, Classical.not_not] at *
  all_goals try (refine RR.le_of_eq ?_; simp [RR.data, Rc.data, rstep, stepB, valueS, wayS, v_rDo, v_rJump, Sta.setReg, Sta.reg, Sta.cells, rowsOn_nil, obs_row, *]; done)
  all_goals try (refine RR.le_of_eq ?_; simp [RR.data, Rc.data, rstep, stepB, valueS, wayS, v_rDo, v_rJump, Sta.cells, rowsOn_nil, obs_row, *]; done)
  · have h4 : 4 ≤ s.stack.length := by omega
    refine RR.le_of_eq ?_
    simp [RR.data, Rc.data, rstep, stepB, Sta.cells, rowsOn_nil, obs_row, *]
  · have h4 : ¬ 4 ≤ s.stack.length := by omega
    have hrg : i.kind ≠ 12 := by rw [show i.kind = 8 from ‹_›]; decide
    rw [hr hrg, es]
    refine RR.le_of_eq ?_
    simp [RR.data, Rc.data, rstep, stepB, Sta.cells, rowsOn_nil, obs_row, *]
  · have h0 : s.stack = [] := List.eq_nil_of_length_eq_zero (by omega)
    refine RR.le_of_eq ?_
    simp [RR.data, Rc.data, rstep, stepB, Sta.cells, rowsOn_nil, obs_row, h0, *]
  · have h0 : ¬ s.stack = [] := fun h => by
      have hz : s.stack.length = 0 := by rw [h]; rfl
      omega
    refine RR.le_of_eq ?_
    simp [RR.data, Rc.data, rstep, stepB, Sta.cells, rowsOn_nil, obs_row, h0, *]
noncomputable def v_rStep : Prg × Sta → Sta × List Obs × Int := fun x => stepS x.1 x.2
noncomputable def sh_rStep : Sta × List Obs × Int → RR := fun x => rstep x
theorem e_rStep (x : Prg × Sta) : sh_rStep (v_rStep x) = c_rStep.ans x := rfl
theorem setReg_reg {p : Prg} {s : Sta} (h : ∀ r, 0 ≤ r ∧ r < 4 → 0 ≤ s.reg r ∧ s.reg r < 2 ^ p.w.toNat) {d v : Int} (hd : 0 ≤ d ∧ d < 4) (hv : 0 ≤ v ∧ v < 2 ^ p.w.toNat) : ∀ r, 0 ≤ r ∧ r < 4 → 0 ≤ (s.setReg d v).reg r ∧ (s.setReg d v).reg r < 2 ^ p.w.toNat := by
  intro r hr
  have h1 : d = 0 ∨ d = 1 ∨ d = 2 ∨ d = 3 := by omega
  have h2 : r = 0 ∨ r = 1 ∨ r = 2 ∨ r = 3 := by omega
  have g0 := h 0 (by decide)
  have g1 := h 1 (by decide)
  have g2 := h 2 (by decide)
  have g3 := h 3 (by decide)
  rcases h1 with rfl | rfl | rfl | rfl <;> rcases h2 with rfl | rfl | rfl | rfl <;> assumption
theorem doS_range {w : Int} (hw : okW w) (op a b : Int) : 0 ≤ (doS w op a b).1 ∧ (doS w op a b).1 < 2 ^ w.toNat := by
  have h0 : (0 : Int) < 2 ^ w.toNat := (pow_small hw).1
  unfold doS
  rw [if_pos hw]
  split
  · exact maskS_ok hw _
  · exact ⟨Int.le_refl _, h0⟩
theorem valS_ok {w : Int} (hw : okW w) (s : Sta) (r : Bool) (n : Int) : 0 ≤ valS w s r n ∧ valS w s r n < 2 ^ w.toNat := by
  unfold valS
  split
  · exact maskS_ok hw _
  · exact maskS_ok hw _
theorem step_ok {p : Prg} {s : Sta} (hp : PrgOk p) (hs : StaOk p s) : StaOk p (stepS p s).1 := by
  have hi := at_ok hp s.pc
  have ha := valS_ok hp.w s (atS p.ins s.pc).aR (atS p.ins s.pc).aN
  have hb := valS_ok hp.w s (atS p.ins s.pc).bR (atS p.ins s.pc).bN
  rw [stepS_B]
  have hA := (maskS_range p.w (valS p.w s (atS p.ins s.pc).aR (atS p.ins s.pc).aN + valS p.w s (atS p.ins s.pc).bR (atS p.ins s.pc).bN)).1
  generalize maskS p.w (valS p.w s (atS p.ins s.pc).aR (atS p.ins s.pc).aN + valS p.w s (atS p.ins s.pc).bR (atS p.ins s.pc).bN) = A at hA ⊢
  generalize valS p.w s (atS p.ins s.pc).aR (atS p.ins s.pc).aN = a at ha
  generalize valS p.w s (atS p.ins s.pc).bR (atS p.ins s.pc).bN = b at hb
  generalize atS p.ins s.pc = i at hi
  obtain ⟨h1, h2, h3, h4⟩ := hs
  have hm := fun v => setReg_mem' s i.d v
  have hv : 0 ≤ valueS p.w i a b (maskS p.w (s.reg i.d)) ∧ valueS p.w i a b (maskS p.w (s.reg i.d)) < 2 ^ p.w.toNat := by
    unfold valueS
    split
    · split
      · exact maskS_ok hp.w _
      · exact hb
    · exact doS_range hp.w _ _ _
  unfold stepB
  repeat' split
  all_goals try exact ⟨h1, h2, h3, h4⟩
  · exact ⟨setReg_reg h1 hi.d hv, by rw [(hm _).1]; exact h2, by rw [(hm _).1]; exact h3, by rw [(hm _).2]; exact h4⟩
  · have h0 : 0 ≤ rd s.mem A ∧ rd s.mem A < 2 ^ p.w.toNat := h2 _ (rd_mem _ _ hA (by omega))
    exact ⟨setReg_reg h1 hi.d h0, by rw [(hm _).1]; exact h2, by rw [(hm _).1]; exact h3, by rw [(hm _).2]; exact h4⟩
  · refine ⟨h1, ?_, by simpa using h3, h4⟩
    intro x hx
    rcases List.mem_or_eq_of_mem_set hx with h | h
    · exact h2 x h
    · rw [h]; exact maskS_ok hp.w _
  · exact ⟨h1, h2, h3, by simp only [List.length_append, List.length_singleton]; omega⟩
  · exact ⟨h1, h2, h3, by simp only [List.length_dropLast]; omega⟩
end Go.Proofs.Ytclabjihjopclaa.Ax
end

section
/- One by one, by the document: runs; observations compared. -/
namespace Go.Proofs.Ytclabjihjopclaa.Ax
open Go.RowKit
set_option linter.unusedVariables false
set_option linter.unusedSimpArgs false
def c_rRun : FT (Prg × Sta × Int) := ⟨63, fun x => [ap x.1, as_ x.2.1, ai x.2.2], rdPSI, fun x => PrgOk x.1 ∧ StaOk x.1 x.2.1 ∧ x.2.2 ≤ 1000000, fun x => rrun (runS x.1 x.2.2.toNat x.2.1), true, fun x => by simp [ap, as_, ai, rdPSI]⟩
noncomputable def a_rRun : FnA := (fnA Try.prog Try.f63 3 [(3, [2, 3, 4, 6, 10, 11, 1000010000000900003002])]).getD ⟨0, .skip, [], []⟩
noncomputable def s_rRun : Sp := spT [c_rStep.gfe v_rStep sh_rStep e_rStep]
theorem s_rRun_sound : s_rRun.sound Try.prog := spT_sound fun e he => by
  simp only [List.mem_cons, List.not_mem_nil, or_false] at he
  rcases he with rfl
  · exact FT.gfe_good c_rStep_good
def F_rRun (p : Prg) (s : Sta) (n d : Int) (R : List (List D)) (m : Nat) : St := ⟨mkS 42 [(2, vi n), (3, vp 192), (4, vp 256), (6, vp 384), (10, vo 900003 m), (11, vi d)], [(192, bx p.cells), (256, bx s.cells), (384, bc [.d (.int .i64 0), .d (.int .i64 0), .d (.int .i64 0), .d (.int .i64 0), .nil, .nil, .d (.int .i64 0)]), (900003, ba 2 R)]⟩
set_option maxRecDepth 100000 in
theorem t_rRun (p : Prg) (s : Sta) (n : Int) : a_rRun.start s_rRun 400 [ap p, as_ s, ai n] =
(FnA.at_ a_rRun 0 (F_rRun p s n (0 : Int) [] (0 : Nat))) := by kernel_rfl
set_option maxRecDepth 100000 in
theorem t_rRun0 (p : Prg) (s : Sta) (n d : Int) (R : List (List D)) (m : Nat) : a_rRun.round s_rRun 400 0 (F_rRun p s n d R m) =
(VC.br (decide (d < n))
 (VC.need (PreOk c_rStep (Prg.of (Prg.cells p), Sta.of (Sta.cells s)) [A.agg (Prg.cells p), A.agg (Sta.cells s)])
 (VC.all (v_rStep (Prg.of (Prg.cells p), Sta.of (Sta.cells s))) fun (y6 : Sta × List Obs × Int) =>
 (VC.need ((List.all (rowsOn y6.snd.fst) fun r ↦ List.length r == (2 : Nat)) = true ∧ (List.all R fun r ↦ List.length r == (2 : Nat)) = true ∧ (List.length R + List.length (rowsOn y6.snd.fst) + (100 : Nat)) * (17 : Nat) ≤ (70368744177664 : Nat))
 (VC.br (y6.snd.snd != (0 : Int))
  (VC.ret (some (RR.tup [Sum.inr [Rc.d (D.int IntKind.i64 y6.fst.r0), Rc.d (D.int IntKind.i64 y6.fst.r1), Rc.d (D.int IntKind.i64 y6.fst.r2), Rc.d (D.int IntKind.i64 y6.fst.r3), Rc.d (D.sl (rowsOn y6.fst.mem)), Rc.d (D.sl (rowsOn y6.fst.stack)), Rc.d (D.int IntKind.i64 y6.fst.pc)], Sum.inl (Rc.new (2 : Nat) (R ++ rowsOn y6.snd.fst)), Sum.inl (Rc.d (D.int IntKind.i64 (IntKind.wrap IntKind.i64 (d + (1 : Int))))), Sum.inl (Rc.d (D.int IntKind.i64 y6.snd.snd))])))
  (FnA.at_ a_rRun 0 (F_rRun p y6.fst n (IntKind.wrap IntKind.i64 (d + (1 : Int))) (R ++ rowsOn y6.snd.fst) (List.length R + List.length (rowsOn y6.snd.fst))))))))
 (VC.ret (some (RR.tup [Sum.inr [Rc.d (D.int IntKind.i64 s.r0), Rc.d (D.int IntKind.i64 s.r1), Rc.d (D.int IntKind.i64 s.r2), Rc.d (D.int IntKind.i64 s.r3), Rc.d (D.sl (rowsOn s.mem)), Rc.d (D.sl (rowsOn s.stack)), Rc.d (D.int IntKind.i64 s.pc)], Sum.inl (Rc.new (2 : Nat) R), Sum.inl (Rc.d (D.int IntKind.i64 (max n (0 : Int)))), Sum.inl (Rc.d (D.int IntKind.i64 (0 : Int)))])))) := by kernel_rfl
theorem l_rRun0 (p : Prg) (n : Int) (fin : Sta × List Obs × Int × Int) (hp0 : PrgOk p) (hn : n ≤ 1000000) : ∀ i : Sta × Int × List (List D) × Nat, (fun (i : Sta × Int × List (List D) × Nat) => StaOk p i.1 ∧ 0 ≤ i.2.1 ∧ i.2.1 ≤ max n 0 ∧ ∃ acc : List Obs, OnL i.2.2.1 i.2.2.2 acc ∧ acc.length ≤ i.2.1 ∧ comb acc i.2.1 (runS p (n - i.2.1).toNat i.1) = fin) i → (a_rRun.at_ 0 ((fun (i : Sta × Int × List (List D) × Nat) => F_rRun p i.1 n i.2.1 i.2.2.1 i.2.2.2) i)).holds s_rRun.cx a_rRun.rs (fun r => r.data.le (rrun fin)) := by
  refine loop_rule (a := a_rRun) (j := 0) (m := 400) s_rRun_sound (fun (i : Sta × Int × List (List D) × Nat) => F_rRun p i.1 n i.2.1 i.2.2.1 i.2.2.2) (fun (i : Sta × Int × List (List D) × Nat) => StaOk p i.1 ∧ 0 ≤ i.2.1 ∧ i.2.1 ≤ max n 0 ∧ ∃ acc : List Obs, OnL i.2.2.1 i.2.2.2 acc ∧ acc.length ≤ i.2.1 ∧ comb acc i.2.1 (runS p (n - i.2.1).toNat i.1) = fin) (fun (i : Sta × Int × List (List D) × Nat) => (n - i.2.1).toNat) ?_
  rintro ⟨s, d, R, m⟩ h_inv ih
  try dsimp only at h_inv
  replace ih := fun (v0 : Sta) (v1 : Int) (v2 : List (List D)) (v3 : Nat) => ih (v0, v1, v2, v3)
  try dsimp only at ih
  show VC.holds _ _ _ (a_rRun.round s_rRun 400 0 (F_rRun p s n d R m))
  rw [t_rRun0]
  try simp only [asRows_sl, asInt_int, asBool_bool, asStr_str, listOf_rowsOn, List.drop_zero, Prg.eta, Sta.eta, rowsOn_length, getD_drop, Nat.reduceAdd, rd_int, rd_PMem_name, rd_PMem_secret, rd_PMem_n, rd_PLabel_name, rd_PLabel_at_, rd_Ins_kind, rd_Ins_op, rd_Ins_d, rd_Ins_aR, rd_Ins_aN, rd_Ins_bR, rd_Ins_bN, rd_Ins_name, rd_Ins_target, rd_Ent_pc, rd_Ent_val, rd_Ent_addr, rd_Ent_fro, rd_Ent_next, rd_Ent_done, rd_Ent_known, rd_Ent_fault, rd_Place_reg, rd_Place_n, rd_Place_secret, rd_Obs_kind, rd_Obs_at_, rd_Dir_kind, rd_Dir_n, Prg.of_cells, Sta.of_cells]
  obtain ⟨hs, h0, h1, acc, h2, h3, h4⟩ := h_inv
  have w1 : IntKind.wrap .i64 (d + 1) = d + 1 := wrap_small _ (by omega) (by omega)
  rw [w1]
  have hol := (step_len p s).2.2
  have e2 := h2.2
  have e1 := h2.1
  refine br_dec (fun hd => ?_) (fun hd => ?_)
  · obtain ⟨k, hk⟩ : ∃ k, (n - d).toNat = k + 1 := ⟨(n - d).toNat - 1, by omega⟩
    rw [hk] at h4
    refine ⟨PreOk.mk ⟨hp0, hs⟩ rfl, all_holds fun y hy => ?_⟩
    replace hy : y = stepS p s := hy
    subst hy
    refine ⟨⟨all2 _ rfl, by rw [e1]; exact all2 _ rfl, by rw [e1]; simp only [rowsOn_length]; omega⟩, ?_⟩
    refine br_bne (fun h => ?_) (fun h => ?_)
    · refine ret_leD (rrun_le (h2.app _) ?_)
      rw [← h4, runS_stop h]
      rfl
    · rw [runS_go h] at h4
      refine ih _ _ _ _ ⟨step_ok hp0 hs, by omega, by omega, _, h2.app2 _, by simp only [List.length_append]; omega, ?_⟩ (by omega)
      rw [← h4, show (n - (d + 1)).toNat = k by omega]
      simp [comb, List.append_assoc]
      omega
  · refine ret_leD (rrun_le h2 ?_)
    have hk : (n - d).toNat = 0 := by omega
    have hx : max n 0 = d := by omega
    rw [← h4, hk, hx]
    simp [comb, runS]
theorem c_rRun_good : c_rRun.fe.Good Try.prog := by
  refine FT.good c_rRun ⟨Try.f63, by kernel_rfl, by decide +kernel, by kernel_rfl⟩ (fun ⟨p, s, n⟩ => by first | rfl | simp [c_rRun, rrRef, rrun, rstep, rins, rnum, rby, rss, rnewI, rnewE, rstab, rplaces, ri, rb, rib, Sta.fresh]) fun ⟨p, s, n⟩ hp => ?_
  refine acalls_leD s_rRun_sound (fn := Try.f63) (a := a_rRun) (nargs := 3) (tbl := [(3, [2, 3, 4, 6, 10, 11, 1000010000000900003002])]) (by kernel_rfl) (by kernel_rfl) rfl (m := 400) ?_
  show VC.holds _ _ _ (a_rRun.start s_rRun 400 [ap p, as_ s, ai n])
  rw [t_rRun]
  try simp only [asRows_sl, asInt_int, asBool_bool, asStr_str, listOf_rowsOn, List.drop_zero, Prg.eta, Sta.eta, rowsOn_length, getD_drop, Nat.reduceAdd, rd_int, rd_PMem_name, rd_PMem_secret, rd_PMem_n, rd_PLabel_name, rd_PLabel_at_, rd_Ins_kind, rd_Ins_op, rd_Ins_d, rd_Ins_aR, rd_Ins_aN, rd_Ins_bR, rd_Ins_bN, rd_Ins_name, rd_Ins_target, rd_Ent_pc, rd_Ent_val, rd_Ent_addr, rd_Ent_fro, rd_Ent_next, rd_Ent_done, rd_Ent_known, rd_Ent_fault, rd_Place_reg, rd_Place_n, rd_Place_secret, rd_Obs_kind, rd_Obs_at_, rd_Dir_kind, rd_Dir_n, Prg.of_cells, Sta.of_cells]
  try simp only [c_rRun] at hp
  obtain ⟨hp0, hs, hn⟩ := hp
  refine l_rRun0 p n _ hp0 hn (s, 0, [], 0) ⟨hs, by simp, by dsimp only; omega, [], OnL.nil, by simp, ?_⟩
  rw [comb_nil]
  simp
theorem Obs.eq_iff {a b : Obs} : a = b ↔ a.kind = b.kind ∧ a.at_ = b.at_ := by
  obtain ⟨_, _⟩ := a
  obtain ⟨_, _⟩ := b
  simp
def rdOO : List A → List Obs × List Obs
  | [.c (.sl r), .c (.sl s)] => (listOf Obs r, listOf Obs s)
  | _ => default
def ao (l : List Obs) : A := .c (.sl (rowsOn l))
def c_rSameO : FT (List Obs × List Obs) := ⟨60, fun x => [ao x.1, ao x.2], rdOO, fun x => x.1.length ≤ 1000000000, fun x => rb (decide (x.1 = x.2)), false, fun x => by simp [ao, rdOO]⟩
noncomputable def a_rSameO : FnA := (fnA Try.prog Try.f60 2 [(4, [0, 1, 5])]).getD ⟨0, .skip, [], []⟩
def s_rSameO : Sp := spT []
theorem s_rSameO_sound : s_rSameO.sound Try.prog := spT_sound fun e he => by cases he
def F_rSameO (a b : List Obs) (k : Int) : St := ⟨mkS 26 [(0, vr (rowsOn a)), (1, vr (rowsOn b)), (5, vi k)], []⟩
set_option maxRecDepth 100000 in
theorem t_rSameO (a b : List Obs) : a_rSameO.start s_rSameO 400 [ao a, ao b] =
(VC.br ((↑(List.length (rowsOn a)) : Int) != (↑(List.length (rowsOn b)) : Int))
 (VC.ret (some (RR.c (Rc.d (D.bool false)))))
 (FnA.at_ a_rSameO 0 (F_rSameO a b (0 : Int)))) := by kernel_rfl
set_option maxRecDepth 100000 in
theorem t_rSameO0 (a b : List Obs) (k : Int) : a_rSameO.round s_rSameO 400 0 (F_rSameO a b k) =
(VC.br (decide (k < (↑(List.length (rowsOn a)) : Int)))
 (VC.need ((0 : Int) ≤ k ∧ k < (↑(List.length (rowsOn a)) : Int) ∧ List.length (rowAt (rowsOn a) (Int.toNat k)) = (2 : Nat))
 (VC.need (okSh [Kd.int IntKind.i64, Kd.int IntKind.i64] (rowAt (rowsOn a) (Int.toNat k)))
 (VC.need ((0 : Int) ≤ k ∧ k < (↑(List.length (rowsOn b)) : Int) ∧ List.length (rowAt (rowsOn b) (Int.toNat k)) = (2 : Nat))
 (VC.need (okSh [Kd.int IntKind.i64, Kd.int IntKind.i64] (rowAt (rowsOn b) (Int.toNat k)))
 (VC.br (if true = true then !(asInt (List.getD (rowAt (rowsOn a) (Int.toNat k)) (0 : Nat) D.nilp) == asInt (List.getD (rowAt (rowsOn b) (Int.toNat k)) (0 : Nat) D.nilp) && (asInt (List.getD (rowAt (rowsOn a) (Int.toNat k)) (1 : Nat) D.nilp) == asInt (List.getD (rowAt (rowsOn b) (Int.toNat k)) (1 : Nat) D.nilp) && true)) else asInt (List.getD (rowAt (rowsOn a) (Int.toNat k)) (0 : Nat) D.nilp) == asInt (List.getD (rowAt (rowsOn b) (Int.toNat k)) (0 : Nat) D.nilp) && (asInt (List.getD (rowAt (rowsOn a) (Int.toNat k)) (1 : Nat) D.nilp) == asInt (List.getD (rowAt (rowsOn b) (Int.toNat k)) (1 : Nat) D.nilp) && true))
  (VC.ret (some (RR.c (Rc.d (D.bool false)))))
  (FnA.at_ a_rSameO 0 (F_rSameO a b (IntKind.wrap IntKind.i64 (k + (1 : Int))))))))))
 (VC.ret (some (RR.c (Rc.d (D.bool true)))))) := by kernel_rfl
theorem l_rSameO0 (a b : List Obs) (res : Bool) (hl : a.length = b.length) (hb : a.length ≤ 1000000000) : ∀ i : Int, (fun (i : Int) => 0 ≤ i ∧ i ≤ a.length ∧ decide (a.drop i.toNat = b.drop i.toNat) = res) i → (a_rSameO.at_ 0 ((fun (i : Int) => F_rSameO a b i) i)).holds s_rSameO.cx a_rSameO.rs (fun r => r.le (rb res)) := by
  refine loop_rule (a := a_rSameO) (j := 0) (m := 400) s_rSameO_sound (fun (i : Int) => F_rSameO a b i) (fun (i : Int) => 0 ≤ i ∧ i ≤ a.length ∧ decide (a.drop i.toNat = b.drop i.toNat) = res) (fun (i : Int) => ((a.length : Int) - i).toNat) ?_
  rintro k h_inv ih
  try dsimp only at h_inv
  show VC.holds _ _ _ (a_rSameO.round s_rSameO 400 0 (F_rSameO a b k))
  rw [t_rSameO0]
  try simp only [asRows_sl, asInt_int, asBool_bool, asStr_str, listOf_rowsOn, List.drop_zero, Prg.eta, Sta.eta, rowsOn_length, getD_drop, Nat.reduceAdd, rd_int, rd_PMem_name, rd_PMem_secret, rd_PMem_n, rd_PLabel_name, rd_PLabel_at_, rd_Ins_kind, rd_Ins_op, rd_Ins_d, rd_Ins_aR, rd_Ins_aN, rd_Ins_bR, rd_Ins_bN, rd_Ins_name, rd_Ins_target, rd_Ent_pc, rd_Ent_val, rd_Ent_addr, rd_Ent_fro, rd_Ent_next, rd_Ent_done, rd_Ent_known, rd_Ent_fault, rd_Place_reg, rd_Place_n, rd_Place_secret, rd_Obs_kind, rd_Obs_at_, rd_Dir_kind, rd_Dir_n, Prg.of_cells, Sta.of_cells]
  obtain ⟨h0, h1, h2⟩ := h_inv
  have w1 : IntKind.wrap .i64 (k + 1) = k + 1 := wrap_small _ (by omega) (by omega)
  rw [w1]
  refine br_dec (fun hk => ?_) (fun hk => ?_)
  · refine ⟨idx_ok _ _ _ rfl (by omega) (by omega), ⟨okSh_ok _ _ _ (fun _ => rfl) (by omega) (by omega), ⟨idx_ok _ _ _ rfl (by omega) (by omega), ⟨okSh_ok _ _ _ (fun _ => rfl) (by omega) (by omega), ?_⟩⟩⟩⟩
    refine br_holds (fun h => ?_) (fun h => ?_)
    · refine ret_le (rb_le ?_)
      have hne : ¬ rd a k = rd b k := fun he => by rw [he] at h; simp at h
      rw [← h2]
      exact (decide_eq_false fun h => absurd ((eq_dropG hl h0 hk).1 h).1 hne).symm
    · have he : rd a k = rd b k := Obs.eq_iff.2 (by simpa using h)
      refine ih _ ⟨by omega, by omega, ?_⟩ (by omega)
      rw [← h2]
      exact decide_eq_decide.2 ⟨fun h => (eq_dropG hl h0 hk).2 ⟨he, h⟩, fun h => ((eq_dropG hl h0 hk).1 h).2⟩
  · refine ret_le (rb_le ?_)
    have hk : k.toNat = a.length := by omega
    rw [← h2, hk, List.drop_length, hl, List.drop_length]
    rfl
theorem c_rSameO_good : c_rSameO.fe.Good Try.prog := by
  refine FT.good c_rSameO ⟨Try.f60, by kernel_rfl, by decide +kernel, by kernel_rfl⟩ (fun ⟨a, b⟩ => by first | rfl | simp [c_rSameO, rrRef, rrun, rstep, rins, rnum, rby, rss, rnewI, rnewE, rstab, rplaces, ri, rb, rib, Sta.fresh]) fun ⟨a, b⟩ hp => ?_
  refine acalls_le s_rSameO_sound (fn := Try.f60) (a := a_rSameO) (nargs := 2) (tbl := [(4, [0, 1, 5])]) (by kernel_rfl) (by kernel_rfl) rfl (m := 400) ?_
  show VC.holds _ _ _ (a_rSameO.start s_rSameO 400 [ao a, ao b])
  rw [t_rSameO]
  try simp only [asRows_sl, asInt_int, asBool_bool, asStr_str, listOf_rowsOn, List.drop_zero, Prg.eta, Sta.eta, rowsOn_length, getD_drop, Nat.reduceAdd, rd_int, rd_PMem_name, rd_PMem_secret, rd_PMem_n, rd_PLabel_name, rd_PLabel_at_, rd_Ins_kind, rd_Ins_op, rd_Ins_d, rd_Ins_aR, rd_Ins_aN, rd_Ins_bR, rd_Ins_bN, rd_Ins_name, rd_Ins_target, rd_Ent_pc, rd_Ent_val, rd_Ent_addr, rd_Ent_fro, rd_Ent_next, rd_Ent_done, rd_Ent_known, rd_Ent_fault, rd_Place_reg, rd_Place_n, rd_Place_secret, rd_Obs_kind, rd_Obs_at_, rd_Dir_kind, rd_Dir_n, Prg.of_cells, Sta.of_cells]
  try simp only [c_rSameO] at hp
  repeat' first
    | refine br_not ?_
    | refine br_dec (fun _ => ?_) (fun _ => ?_)
    | refine br_beq (fun _ => ?_) (fun _ => ?_)
    | refine br_bne (fun _ => ?_) (fun _ => ?_)
    | refine br_holds (fun _ => ?_) (fun _ => ?_)
    | refine ⟨PreOk.mk ?_ rfl, ?_⟩
    | refine ⟨idx_ok _ _ _ rfl (by omega) (by omega), ?_⟩
    | refine ⟨okSh_ok _ _ _ (fun _ => rfl) (by omega) (by omega), ?_⟩
    | refine ⟨okSh_okD _ _ _ _ (fun _ => rfl) (by omega) (by omega), ?_⟩
    | refine ⟨aload_ok _ _ rfl (fun _ => rfl) (by omega) (by omega), ?_⟩
    | refine ⟨aload_okD _ _ _ rfl (fun _ => rfl) (by omega) (by omega), ?_⟩
    | refine ⟨astore_ok (by assumption) rfl (by omega) (by omega) (by decide), ?_⟩
    | refine ⟨app_ok (by assumption) rfl rfl (by simp only [List.length_cons, List.length_nil]; omega), ?_⟩
    | refine need_holds ?_ fun _ => ?_
    | refine all_holds fun y hy => ?_
    | refine ret_le ?_
  · have e : c_rSameO.ans (a, b) = rb (decide (a = b)) := rfl
    rw [e]
    exact l_rSameO0 a b _ (by omega) hp 0 ⟨by omega, by omega, by simp⟩
  · exact rb_le (decide_eq_false fun h => by have h : a = b := h; subst h; omega).symm
def c_eqO : FT (List Obs × List Obs) := ⟨112, fun x => [ao x.1, ao x.2], rdOO, fun x => x.1.length ≤ 1000000000, fun x => rb (decide (x.1 = x.2)), false, fun x => by simp [ao, rdOO]⟩
noncomputable def a_eqO : FnA := (fnA Try.prog Try.f112 2 [(4, [0, 1, 12, 13])]).getD ⟨0, .skip, [], []⟩
def s_eqO : Sp := spT []
theorem s_eqO_sound : s_eqO.sound Try.prog := spT_sound fun e he => by cases he
def F_eqO (a b : List Obs) (k : Int) : St := ⟨mkS 26 [(0, vr (rowsOn a)), (1, vr (rowsOn b)), (12, vi (rowsOn a).length), (13, vi k)], []⟩
set_option maxRecDepth 100000 in
theorem t_eqO (a b : List Obs) : a_eqO.start s_eqO 400 [ao a, ao b] =
(VC.br ((↑(List.length (rowsOn a)) : Int) != (↑(List.length (rowsOn b)) : Int))
 (VC.ret (some (RR.c (Rc.d (D.bool false)))))
 (FnA.at_ a_eqO 0 (F_eqO a b (0 : Int)))) := by kernel_rfl
set_option maxRecDepth 100000 in
theorem t_eqO0 (a b : List Obs) (k : Int) : a_eqO.round s_eqO 400 0 (F_eqO a b k) =
(VC.br (decide (k < (↑(List.length (rowsOn a)) : Int)))
 (VC.need ((0 : Int) ≤ k ∧ k < (↑(List.length (rowsOn a)) : Int) ∧ List.length (rowAt (rowsOn a) (Int.toNat k)) = (2 : Nat))
 (VC.need (okSh [Kd.int IntKind.i64, Kd.int IntKind.i64] (rowAt (rowsOn a) (Int.toNat k)))
 (VC.need ((0 : Int) ≤ k ∧ k < (↑(List.length (rowsOn b)) : Int) ∧ List.length (rowAt (rowsOn b) (Int.toNat k)) = (2 : Nat))
 (VC.need (okSh [Kd.int IntKind.i64, Kd.int IntKind.i64] (rowAt (rowsOn b) (Int.toNat k)))
 (VC.br (if true = true then !(asInt (List.getD (rowAt (rowsOn a) (Int.toNat k)) (0 : Nat) D.nilp) == asInt (List.getD (rowAt (rowsOn b) (Int.toNat k)) (0 : Nat) D.nilp) && (asInt (List.getD (rowAt (rowsOn a) (Int.toNat k)) (1 : Nat) D.nilp) == asInt (List.getD (rowAt (rowsOn b) (Int.toNat k)) (1 : Nat) D.nilp) && true)) else asInt (List.getD (rowAt (rowsOn a) (Int.toNat k)) (0 : Nat) D.nilp) == asInt (List.getD (rowAt (rowsOn b) (Int.toNat k)) (0 : Nat) D.nilp) && (asInt (List.getD (rowAt (rowsOn a) (Int.toNat k)) (1 : Nat) D.nilp) == asInt (List.getD (rowAt (rowsOn b) (Int.toNat k)) (1 : Nat) D.nilp) && true))
  (VC.ret (some (RR.c (Rc.d (D.bool false)))))
  (FnA.at_ a_eqO 0 (F_eqO a b (IntKind.wrap IntKind.i64 (k + (1 : Int))))))))))
 (VC.ret (some (RR.c (Rc.d (D.bool true)))))) := by kernel_rfl
theorem l_eqO0 (a b : List Obs) (res : Bool) (hl : a.length = b.length) (hb : a.length ≤ 1000000000) : ∀ i : Int, (fun (i : Int) => 0 ≤ i ∧ i ≤ a.length ∧ decide (a.drop i.toNat = b.drop i.toNat) = res) i → (a_eqO.at_ 0 ((fun (i : Int) => F_eqO a b i) i)).holds s_eqO.cx a_eqO.rs (fun r => r.le (rb res)) := by
  refine loop_rule (a := a_eqO) (j := 0) (m := 400) s_eqO_sound (fun (i : Int) => F_eqO a b i) (fun (i : Int) => 0 ≤ i ∧ i ≤ a.length ∧ decide (a.drop i.toNat = b.drop i.toNat) = res) (fun (i : Int) => ((a.length : Int) - i).toNat) ?_
  rintro k h_inv ih
  try dsimp only at h_inv
  show VC.holds _ _ _ (a_eqO.round s_eqO 400 0 (F_eqO a b k))
  rw [t_eqO0]
  try simp only [asRows_sl, asInt_int, asBool_bool, asStr_str, listOf_rowsOn, List.drop_zero, Prg.eta, Sta.eta, rowsOn_length, getD_drop, Nat.reduceAdd, rd_int, rd_PMem_name, rd_PMem_secret, rd_PMem_n, rd_PLabel_name, rd_PLabel_at_, rd_Ins_kind, rd_Ins_op, rd_Ins_d, rd_Ins_aR, rd_Ins_aN, rd_Ins_bR, rd_Ins_bN, rd_Ins_name, rd_Ins_target, rd_Ent_pc, rd_Ent_val, rd_Ent_addr, rd_Ent_fro, rd_Ent_next, rd_Ent_done, rd_Ent_known, rd_Ent_fault, rd_Place_reg, rd_Place_n, rd_Place_secret, rd_Obs_kind, rd_Obs_at_, rd_Dir_kind, rd_Dir_n, Prg.of_cells, Sta.of_cells]
  obtain ⟨h0, h1, h2⟩ := h_inv
  have w1 : IntKind.wrap .i64 (k + 1) = k + 1 := wrap_small _ (by omega) (by omega)
  rw [w1]
  refine br_dec (fun hk => ?_) (fun hk => ?_)
  · refine ⟨idx_ok _ _ _ rfl (by omega) (by omega), ⟨okSh_ok _ _ _ (fun _ => rfl) (by omega) (by omega), ⟨idx_ok _ _ _ rfl (by omega) (by omega), ⟨okSh_ok _ _ _ (fun _ => rfl) (by omega) (by omega), ?_⟩⟩⟩⟩
    refine br_holds (fun h => ?_) (fun h => ?_)
    · refine ret_le (rb_le ?_)
      have hne : ¬ rd a k = rd b k := fun he => by rw [he] at h; simp at h
      rw [← h2]
      exact (decide_eq_false fun h => absurd ((eq_dropG hl h0 hk).1 h).1 hne).symm
    · have he : rd a k = rd b k := Obs.eq_iff.2 (by simpa using h)
      refine ih _ ⟨by omega, by omega, ?_⟩ (by omega)
      rw [← h2]
      exact decide_eq_decide.2 ⟨fun h => (eq_dropG hl h0 hk).2 ⟨he, h⟩, fun h => ((eq_dropG hl h0 hk).1 h).2⟩
  · refine ret_le (rb_le ?_)
    have hk : k.toNat = a.length := by omega
    rw [← h2, hk, List.drop_length, hl, List.drop_length]
    rfl
theorem c_eqO_good : c_eqO.fe.Good Try.prog := by
  refine FT.good c_eqO ⟨Try.f112, by kernel_rfl, by decide +kernel, by kernel_rfl⟩ (fun ⟨a, b⟩ => by first | rfl | simp [c_eqO, rrRef, rrun, rstep, rins, rnum, rby, rss, rnewI, rnewE, rstab, rplaces, ri, rb, rib, Sta.fresh]) fun ⟨a, b⟩ hp => ?_
  refine acalls_le s_eqO_sound (fn := Try.f112) (a := a_eqO) (nargs := 2) (tbl := [(4, [0, 1, 12, 13])]) (by kernel_rfl) (by kernel_rfl) rfl (m := 400) ?_
  show VC.holds _ _ _ (a_eqO.start s_eqO 400 [ao a, ao b])
  rw [t_eqO]
  try simp only [asRows_sl, asInt_int, asBool_bool, asStr_str, listOf_rowsOn, List.drop_zero, Prg.eta, Sta.eta, rowsOn_length, getD_drop, Nat.reduceAdd, rd_int, rd_PMem_name, rd_PMem_secret, rd_PMem_n, rd_PLabel_name, rd_PLabel_at_, rd_Ins_kind, rd_Ins_op, rd_Ins_d, rd_Ins_aR, rd_Ins_aN, rd_Ins_bR, rd_Ins_bN, rd_Ins_name, rd_Ins_target, rd_Ent_pc, rd_Ent_val, rd_Ent_addr, rd_Ent_fro, rd_Ent_next, rd_Ent_done, rd_Ent_known, rd_Ent_fault, rd_Place_reg, rd_Place_n, rd_Place_secret, rd_Obs_kind, rd_Obs_at_, rd_Dir_kind, rd_Dir_n, Prg.of_cells, Sta.of_cells]
  try simp only [c_eqO] at hp
  repeat' first
    | refine br_not ?_
    | refine br_dec (fun _ => ?_) (fun _ => ?_)
    | refine br_beq (fun _ => ?_) (fun _ => ?_)
    | refine br_bne (fun _ => ?_) (fun _ => ?_)
    | refine br_holds (fun _ => ?_) (fun _ => ?_)
    | refine ⟨PreOk.mk ?_ rfl, ?_⟩
    | refine ⟨idx_ok _ _ _ rfl (by omega) (by omega), ?_⟩
    | refine ⟨okSh_ok _ _ _ (fun _ => rfl) (by omega) (by omega), ?_⟩
    | refine ⟨okSh_okD _ _ _ _ (fun _ => rfl) (by omega) (by omega), ?_⟩
    | refine ⟨aload_ok _ _ rfl (fun _ => rfl) (by omega) (by omega), ?_⟩
    | refine ⟨aload_okD _ _ _ rfl (fun _ => rfl) (by omega) (by omega), ?_⟩
    | refine ⟨astore_ok (by assumption) rfl (by omega) (by omega) (by decide), ?_⟩
    | refine ⟨app_ok (by assumption) rfl rfl (by simp only [List.length_cons, List.length_nil]; omega), ?_⟩
    | refine need_holds ?_ fun _ => ?_
    | refine all_holds fun y hy => ?_
    | refine ret_le ?_
  · have e : c_eqO.ans (a, b) = rb (decide (a = b)) := rfl
    rw [e]
    exact l_eqO0 a b _ (by omega) hp 0 ⟨by omega, by omega, by simp⟩
  · exact rb_le (decide_eq_false fun h => by have h : a = b := h; subst h; omega).symm
end Go.Proofs.Ytclabjihjopclaa.Ax
end

section
/- One by one: what runs come to; states that were begun; awake of layer 8. -/
namespace Go.Proofs.Ytclabjihjopclaa.Ax
open Go.RowKit
set_option linter.unusedVariables false
set_option linter.unusedSimpArgs false
section
variable {cx : Cx} {rs : List RVar} {R : RR → Prop} {x y : VC}
theorem br_t {b : Bool} (h : b = true) (hx : x.holds cx rs R) : (VC.br b x y).holds cx rs R := by subst h; exact hx
theorem br_f {b : Bool} (h : b = false) (hy : y.holds cx rs R) : (VC.br b x y).holds cx rs R := by subst h; exact hy
end
theorem awake8 : ACalls Try.prog 59 [] (.c (.d (.bool true))) ∧ Enters Try.prog 59 :=
  axG_sound (n := 60) Z_step_ok extE_sound (by intro g sh h; cases h) 8 (by kernel_rfl)
def c_awake8 : FT Unit := ⟨59, fun _ => [], rd0, fun _ => True, fun _ => rb true, false, fun _ => rfl⟩
theorem c_awake8_good : c_awake8.fe.Good Try.prog := FT.good c_awake8 awake8.2 (fun _ => rfl) fun _ _ => awake8.1
noncomputable def v_run : Prg × Sta × Int → Sta × List Obs × Int × Int := fun x => runS x.1 x.2.2.toNat x.2.1
noncomputable def sh_run : Sta × List Obs × Int × Int → RR := fun x => rrun x
theorem e_run (x : Prg × Sta × Int) : sh_run (v_run x) = c_run.ans x := rfl
noncomputable def v_rRun : Prg × Sta × Int → Sta × List Obs × Int × Int := fun x => runS x.1 x.2.2.toNat x.2.1
noncomputable def sh_rRun : Sta × List Obs × Int × Int → RR := fun x => rrun x
theorem e_rRun (x : Prg × Sta × Int) : sh_rRun (v_rRun x) = c_rRun.ans x := rfl
noncomputable def v_rSame : Sta × Sta → Bool := fun x => decide (x.1 = x.2)
noncomputable def sh_rSame : Bool → RR := fun b => rb b
theorem e_rSame (x : Sta × Sta) : sh_rSame (v_rSame x) = c_rSame.ans x := rfl
noncomputable def v_rSameO : List Obs × List Obs → Bool := fun x => decide (x.1 = x.2)
noncomputable def sh_rSameO : Bool → RR := fun b => rb b
theorem e_rSameO (x : List Obs × List Obs) : sh_rSameO (v_rSameO x) = c_rSameO.ans x := rfl
noncomputable def v_eqO : List Obs × List Obs → Bool := fun x => decide (x.1 = x.2)
noncomputable def sh_eqO : Bool → RR := fun b => rb b
theorem e_eqO (x : List Obs × List Obs) : sh_eqO (v_eqO x) = c_eqO.ans x := rfl
theorem run_len (p : Prg) : ∀ (n : Nat) (s : Sta), (runS p n s).1.mem.length = s.mem.length ∧ (runS p n s).1.stack.length ≤ max s.stack.length 4 ∧ (runS p n s).2.1.length ≤ n ∧ 0 ≤ (runS p n s).2.2.1 ∧ (runS p n s).2.2.1 ≤ n ∧ ((runS p n s).2.2.2 = 0 → (runS p n s).2.2.1 = n)
  | 0, s => by simp [runS]; omega
  | n + 1, s => by
    obtain ⟨h1, h2, h3⟩ := step_len p s
    by_cases h : (stepS p s).2.2 = 0
    · rw [runS_go h]
      obtain ⟨g1, g2, g3, g4, g5, g6⟩ := run_len p n (stepS p s).1
      refine ⟨g1.trans h1, by dsimp only; omega, by simp only [List.length_append]; omega, by dsimp only; omega, by dsimp only; omega, fun he => by have := g6 he; dsimp only; omega⟩
    · rw [runS_stop h]
      exact ⟨h1, h2, by dsimp only; omega, by simp, by dsimp only; omega, fun he => absurd he h⟩
theorem run_ok {p : Prg} (hp : PrgOk p) : ∀ (n : Nat) {s : Sta}, StaOk p s → StaOk p (runS p n s).1
  | 0, s, hs => hs
  | n + 1, s, hs => by
    by_cases h : (stepS p s).2.2 = 0
    · rw [runS_go h]; exact run_ok hp n (step_ok hp hs)
    · rw [runS_stop h]; exact step_ok hp hs
/-- So many steps, and then the others. -/
theorem run_add (p : Prg) (k : Nat) : ∀ (n : Nat) (s : Sta), runS p (n + k) s = if (runS p n s).2.2.2 = 0 then comb (runS p n s).2.1 n (runS p k (runS p n s).1) else runS p n s
  | 0, s => by simp [runS, comb]
  | n + 1, s => by
    rw [show n + 1 + k = (n + k) + 1 by omega]
    by_cases h : (stepS p s).2.2 = 0
    · rw [runS_go h, runS_go h, run_add p k n (stepS p s).1]
      dsimp only
      split
      · simp [comb, List.append_assoc]
        omega
      · rfl
    · rw [runS_stop h, runS_stop h]
      rw [if_neg h]
theorem start_ok {p : Prg} (hw : okW p.w) (hm : Mems p.mems) (l : List Int) (hl : l.length = (placesS p).length) : StaOk p (startS p l).1 := by
  obtain ⟨s, h0, h1, h2, h3, h4, h5⟩ := start_hold p hm l hl
  have hpos := (pow_small hw).1
  have key : ∀ x ∈ placesS p, 0 ≤ holdP s x ∧ holdP s x < 2 ^ p.w.toNat := by
    intro x hx
    obtain ⟨i, hi, rfl⟩ := List.getElem_of_mem hx
    rw [h4 i hi]
    exact maskS_ok hw _
  rw [h0]
  refine ⟨fun r hr => ?_, fun v hv => ?_, h1, by rw [h2]; simp⟩
  · by_cases e : p.reg r = 0
    · rw [h5 r hr e]; exact ⟨Int.le_refl _, hpos⟩
    · exact key ⟨true, r, decide (p.reg r = 2)⟩ ((mem_places p hm _).2 (.inl ⟨rfl, hr.1, hr.2, e, rfl⟩))
  · obtain ⟨i, hi, rfl⟩ := List.getElem_of_mem hv
    have h1' : (s.mem.length : Int) = cellsS p.mems := h1
    have := key ⟨false, i, secM p.mems i⟩ ((mem_places p hm _).2 (.inr ⟨rfl, by dsimp only; omega, by dsimp only at hi ⊢; omega, rfl⟩))
    unfold holdP at this
    rw [if_neg (by simp)] at this
    dsimp only at this hi ⊢
    rwa [rd_lt _ _ hi] at this
theorem WFM.ok {p : Prg} (h : WFM p) : PrgOk p := by
  have hr := h.regs.hw
  refine ⟨⟨by omega, by omega⟩, h.toMems, by have := h.len; omega, fun i hi => ?_⟩
  have := h.ins i hi
  exact ⟨this.d, this.aN, this.bN⟩
theorem states_ok {p : Prg} (hp : PrgOk p) (l : List Int) (how : Int) : StaOk p (statesS p l how).1 ∧ StaOk p (statesS p l how).2 ∧ (statesS p l how).1.pc = 0 ∧ (statesS p l how).2.pc = 0 ∧ (statesS p l how).1.stack = [] ∧ (statesS p l how).2.stack = [] := by
  have h1 := told_len (placesS p).length (padF l) (placesS p).length
  have h2 := told_len (placesS p).length (twinF how (placesS p) l) (placesS p).length
  obtain ⟨s, a0, a1, a2, a3, a4, a5⟩ := start_hold p hp.mems _ h1
  obtain ⟨t, b0, b1, b2, b3, b4, b5⟩ := start_hold p hp.mems _ h2
  have e1 : (statesS p l how).1 = s := congrArg Prod.fst a0
  have e2 : (statesS p l how).2 = t := congrArg Prod.fst b0
  have g1 := start_ok hp.w hp.mems _ h1
  have g2 := start_ok hp.w hp.mems _ h2
  rw [a0] at g1
  rw [b0] at g2
  rw [e1, e2]
  exact ⟨g1, g2, a3, b3, a2, b2⟩
end Go.Proofs.Ytclabjihjopclaa.Ax
end

section
/- Ranges over slices.Backward; awake of layers 10, 11, 19, 23. -/
namespace Go.Proofs.Ytclabjihjopclaa.Ax
open Go.RowKit
set_option linter.unusedVariables false
set_option linter.unusedSimpArgs false
theorem backI_ok : BackOK Try.prog 141 none :=
  backward_ok (fn := Try.f141) (t := 22) (u := 3) (by kernel_rfl) rfl rfl rfl (by kernel_rfl) (by kernel_rfl) (by kernel_rfl) (by kernel_rfl) ⟨rfl, rfl, rfl⟩ ⟨rfl, rfl, rfl⟩ ⟨rfl, rfl, rfl⟩ ⟨rfl, rfl, rfl⟩ ⟨rfl, rfl, rfl⟩ ⟨rfl, rfl, rfl⟩ ⟨rfl, rfl, rfl⟩ ⟨rfl, rfl, rfl⟩ ⟨rfl, rfl, rfl⟩ ⟨rfl, rfl, rfl⟩ ⟨rfl, rfl, rfl⟩ ⟨rfl, rfl, rfl⟩ ⟨rfl, rfl, rfl⟩ ⟨rfl, rfl, rfl⟩ ⟨rfl, rfl, rfl⟩ ⟨rfl, rfl, rfl⟩ ⟨rfl, rfl, rfl⟩
theorem backE_ok : BackOK Try.prog 123 (some 8) :=
  backward_ok (fn := Try.f123) (t := 34) (u := 43) (by kernel_rfl) rfl rfl rfl (by kernel_rfl) (by kernel_rfl) (by kernel_rfl) (by kernel_rfl) ⟨rfl, rfl, rfl⟩ ⟨rfl, rfl, rfl⟩ ⟨rfl, rfl, rfl⟩ ⟨rfl, rfl, rfl⟩ ⟨rfl, rfl, rfl⟩ ⟨rfl, rfl, rfl⟩ ⟨rfl, rfl, rfl⟩ ⟨rfl, rfl, rfl⟩ ⟨rfl, rfl, rfl⟩ ⟨rfl, rfl, rfl⟩ ⟨rfl, rfl, rfl⟩ ⟨rfl, rfl, rfl⟩ ⟨rfl, rfl, rfl⟩ ⟨rfl, rfl, rfl⟩ ⟨rfl, rfl, rfl⟩ ⟨rfl, rfl, rfl⟩ ⟨rfl, rfl, rfl⟩
def kdE : List Kd := [.int .i64, .int .i64, .int .i64, .int .i64, .int .i64, .bool, .bool, .bool]
def bkAll (g : FuncId) : Option (Option Nat × List Kd) := if g = 141 then some (none, [.int .i64]) else if g = 123 then some (some 8, kdE) else none
theorem bkAll_ok : BksOK Try.prog bkAll := by
  intro g sh h
  unfold bkAll at h
  split at h
  · rename_i hg; subst hg; cases h
    exact ⟨backI_ok, ⟨Try.f141, by kernel_rfl, by decide +kernel, by kernel_rfl⟩⟩
  · split at h
    · rename_i hg; subst hg; cases h
      exact ⟨backE_ok, ⟨Try.f123, by kernel_rfl, by decide +kernel, by kernel_rfl⟩⟩
    · cases h
/-- seqm.put, seqm.touch and pair.fill are run in their callers' places. -/
noncomputable def Z_all : Zo := mkZ Try.prog 0 [(101, ⟨100000, fun _ => none, fun _ => none⟩), (105, Z_t), (95, ⟨400000, fun _ => none, fun _ => none⟩)] bkAll
theorem Z_all_ok : ZOK Try.prog 2 Z_all := zok_mk fun p hp => by
  simp only [List.mem_cons, List.not_mem_nil, or_false] at hp
  rcases hp with rfl | rfl | rfl
  · exact zok_none _ _ _
  · exact zok_mk fun p hp => by
      simp only [List.mem_cons, List.not_mem_nil, or_false] at hp
      subst hp
      exact zok_none _ _ _
  · exact zok_none _ _ _
theorem awake10 : ACalls Try.prog 30 [] (.c (.d (.bool true))) ∧ Enters Try.prog 30 :=
  axG_sound (n := 60) Z_all_ok extE_sound bkAll_ok 8 (by kernel_rfl)
theorem awake11 : ACalls Try.prog 27 [] (.c (.d (.bool true))) ∧ Enters Try.prog 27 :=
  axG_sound (n := 60) Z_all_ok extE_sound bkAll_ok 8 (by kernel_rfl)
theorem awake19 : ACalls Try.prog 46 [] (.c (.d (.bool true))) ∧ Enters Try.prog 46 :=
  axG_sound (n := 60) Z_all_ok extE_sound bkAll_ok 8 (by kernel_rfl)
theorem awake23 : ACalls Try.prog 65 [] (.c (.d (.bool true))) ∧ Enters Try.prog 65 :=
  axG_sound (n := 60) Z_all_ok extE_sound bkAll_ok 13 (by kernel_rfl)
def c_awake10 : FT Unit := ⟨30, fun _ => [], rd0, fun _ => True, fun _ => rb true, false, fun _ => rfl⟩
theorem c_awake10_good : c_awake10.fe.Good Try.prog := FT.good c_awake10 awake10.2 (fun _ => rfl) fun _ _ => awake10.1
def c_awake11 : FT Unit := ⟨27, fun _ => [], rd0, fun _ => True, fun _ => rb true, false, fun _ => rfl⟩
theorem c_awake11_good : c_awake11.fe.Good Try.prog := FT.good c_awake11 awake11.2 (fun _ => rfl) fun _ _ => awake11.1
def c_awake19 : FT Unit := ⟨46, fun _ => [], rd0, fun _ => True, fun _ => rb true, false, fun _ => rfl⟩
theorem c_awake19_good : c_awake19.fe.Good Try.prog := FT.good c_awake19 awake19.2 (fun _ => rfl) fun _ _ => awake19.1
def c_awake23 : FT Unit := ⟨65, fun _ => [], rd0, fun _ => True, fun _ => rb true, false, fun _ => rfl⟩
theorem c_awake23_good : c_awake23.fe.Good Try.prog := FT.good c_awake23 awake23.2 (fun _ => rfl) fun _ _ => awake23.1
end Go.Proofs.Ytclabjihjopclaa.Ax
end

section
/- What leaks without any guess: clas.Differ; how two runs go side by side. -/
namespace Go.Proofs.Ytclabjihjopclaa.Ax
open Go.RowKit
set_option linter.unusedVariables false
set_option linter.unusedSimpArgs false
def trS (p : Prg) (n : Nat) (s : Sta) : List Obs × Int × Int := ((runS p n s).2.1, (runS p n s).2.2.1, (runS p n s).2.2.2)
def differS (p : Prg) (a b : Sta) : Bool := !decide (trS p p.fuel.toNat a = trS p p.fuel.toNat b)
def c_differ : FT (Prg × Sta × Sta) := ⟨64, fun x => [ap x.1, as_ x.2.1, as_ x.2.2], rdPSS, fun x => Mems x.1.mems ∧ SmallS x.2.1 ∧ SmallS x.2.2 ∧ x.1.ins.length ≤ 1000000 ∧ x.1.fuel ≤ 1000000, fun x => rb (differS x.1 x.2.1 x.2.2), false, fun s => by simp [as_, ap, rdPSS]⟩
noncomputable def a_differ : FnA := (fnA Try.prog Try.f64 3 []).getD ⟨0, .skip, [], []⟩
noncomputable def s_differ : Sp := spT [c_run.gfe v_run sh_run e_run, c_eqO.gfe v_eqO sh_eqO e_eqO]
theorem s_differ_sound : s_differ.sound Try.prog := spT_sound fun e he => by
  simp only [List.mem_cons, List.not_mem_nil, or_false] at he
  rcases he with rfl | rfl
  · exact FT.gfe_good c_run_good
  · exact FT.gfe_good c_eqO_good
set_option maxRecDepth 100000 in
theorem t_differ (p : Prg) (s t : Sta) : a_differ.start s_differ 400 [ap p, as_ s, as_ t] =
(VC.need (PreOk c_run (Prg.of (Prg.cells p), Sta.of (Sta.cells s), p.fuel) [A.agg (Prg.cells p), A.agg (Sta.cells s), A.c (D.int IntKind.i64 p.fuel)])
(VC.all (v_run (Prg.of (Prg.cells p), Sta.of (Sta.cells s), p.fuel)) fun (y3 : Sta × List Obs × Int × Int) =>
(VC.need (PreOk c_run (Prg.of (Prg.cells p), Sta.of (Sta.cells t), p.fuel) [A.agg (Prg.cells p), A.agg (Sta.cells t), A.c (D.int IntKind.i64 p.fuel)])
(VC.all (v_run (Prg.of (Prg.cells p), Sta.of (Sta.cells t), p.fuel)) fun (y4 : Sta × List Obs × Int × Int) =>
(VC.br (y3.snd.snd.fst != y4.snd.snd.fst)
 (VC.ret (some (RR.c (Rc.d (D.bool true)))))
 (VC.br (y3.snd.snd.snd != y4.snd.snd.snd)
  (VC.ret (some (RR.c (Rc.d (D.bool true)))))
  (VC.need (PreOk c_eqO (y3.snd.fst, y4.snd.fst) [A.c (D.sl (rowsOn y3.snd.fst)), A.c (D.sl (rowsOn y4.snd.fst))])
  (VC.all (v_eqO (listOf Obs (rowsOn y3.snd.fst), listOf Obs (rowsOn y4.snd.fst))) fun (y5 : Bool) =>
  (VC.ret (some (RR.c (Rc.d (D.bool !y5))))))))))))) := by kernel_rfl
theorem c_differ_good : c_differ.fe.Good Try.prog := by
  refine FT.good c_differ ⟨Try.f64, by kernel_rfl, by decide +kernel, by kernel_rfl⟩ (fun ⟨p, s, t⟩ => by first | rfl | simp [c_differ, rrRef, rrun, rstep, rins, rnum, rby, rss, rnewI, rnewE, rstab, rplaces, ri, rb, rib, Sta.fresh]) fun ⟨p, s, t⟩ hp => ?_
  refine acalls_le s_differ_sound (fn := Try.f64) (a := a_differ) (nargs := 3) (tbl := []) (by kernel_rfl) (by kernel_rfl) rfl (m := 400) ?_
  show VC.holds _ _ _ (a_differ.start s_differ 400 [ap p, as_ s, as_ t])
  rw [t_differ]
  try simp only [asRows_sl, asInt_int, asBool_bool, asStr_str, listOf_rowsOn, List.drop_zero, Prg.eta, Sta.eta, rowsOn_length, getD_drop, Nat.reduceAdd, rd_int, rd_PMem_name, rd_PMem_secret, rd_PMem_n, rd_PLabel_name, rd_PLabel_at_, rd_Ins_kind, rd_Ins_op, rd_Ins_d, rd_Ins_aR, rd_Ins_aN, rd_Ins_bR, rd_Ins_bN, rd_Ins_name, rd_Ins_target, rd_Ent_pc, rd_Ent_val, rd_Ent_addr, rd_Ent_fro, rd_Ent_next, rd_Ent_done, rd_Ent_known, rd_Ent_fault, rd_Place_reg, rd_Place_n, rd_Place_secret, rd_Obs_kind, rd_Obs_at_, rd_Dir_kind, rd_Dir_n, Prg.of_cells, Sta.of_cells]
  try simp only [c_differ] at hp
  obtain ⟨hm, hs, ht, hl, hf⟩ := hp
  refine ⟨PreOk.mk ⟨hm, hs, hl, hf⟩ rfl, all_holds fun x hx => ⟨PreOk.mk ⟨hm, ht, hl, hf⟩ rfl, all_holds fun y hy => ?_⟩⟩
  replace hx : x = runS p p.fuel.toNat s := hx
  replace hy : y = runS p p.fuel.toNat t := hy
  have e : c_differ.ans (p, s, t) = rb (!decide ((x.2.1, x.2.2.1, x.2.2.2) = (y.2.1, y.2.2.1, y.2.2.2))) := by rw [hx, hy]; rfl
  have hol := (run_len p p.fuel.toNat s).2.2.1
  rw [← hx] at hol
  rw [e]
  clear e hx hy
  repeat' first
    | refine br_not ?_
    | refine br_dec (fun _ => ?_) (fun _ => ?_)
    | refine br_beq (fun _ => ?_) (fun _ => ?_)
    | refine br_bne (fun _ => ?_) (fun _ => ?_)
    | refine br_holds (fun _ => ?_) (fun _ => ?_)
    | refine ⟨PreOk.mk ?_ rfl, ?_⟩
    | refine ⟨idx_ok _ _ _ rfl (by omega) (by omega), ?_⟩
    | refine ⟨okSh_ok _ _ _ (fun _ => rfl) (by omega) (by omega), ?_⟩
    | refine ⟨okSh_okD _ _ _ _ (fun _ => rfl) (by omega) (by omega), ?_⟩
    | refine ⟨aload_ok _ _ rfl (fun _ => rfl) (by omega) (by omega), ?_⟩
    | refine ⟨aload_okD _ _ _ rfl (fun _ => rfl) (by omega) (by omega), ?_⟩
    | refine ⟨astore_ok (by assumption) rfl (by omega) (by omega) (by decide), ?_⟩
    | refine ⟨app_ok (by assumption) rfl rfl (by simp only [List.length_cons, List.length_nil]; omega), ?_⟩
    | refine need_holds ?_ fun _ => ?_
    | refine all_holds fun y hy => ?_
    | refine ret_le ?_
  all_goals try (dsimp only [c_eqO]; omega)
  all_goals refine rb_le ?_
  all_goals subst_vars
  all_goals simp_all [v_eqO]
noncomputable def v_differ : Prg × Sta × Sta → Bool := fun x => differS x.1 x.2.1 x.2.2
noncomputable def sh_differ : Bool → RR := fun b => rb b
theorem e_differ (x : Prg × Sta × Sta) : sh_differ (v_differ x) = c_differ.ans x := rfl
/-- Two states that go side by side. -/
def Lk (a b : Sta) : Prop := a.pc = b.pc ∧ a.stack = b.stack
/-- Where neither ends, both show as much; and where they show the same they go on side by side. -/
theorem step_lock (p : Prg) {a b : Sta} (h : Lk a b) (ha : (stepS p a).2.2 = 0) (hb : (stepS p b).2.2 = 0) : (stepS p a).2.1.length = (stepS p b).2.1.length ∧ ((stepS p a).2.1 = (stepS p b).2.1 → Lk (stepS p a).1 (stepS p b).1) := by
  obtain ⟨h1, h2⟩ := h
  have g1 := fun n => (setReg_mem a (atS p.ins a.pc).d n).2
  have g2 := fun n => (setReg_mem b (atS p.ins a.pc).d n).2
  rw [stepS_B] at ha
  rw [stepS_B] at hb
  rw [stepS_B, stepS_B p b]
  rw [← h1] at hb ⊢
  generalize maskS p.w (valS p.w a (atS p.ins a.pc).aR (atS p.ins a.pc).aN + valS p.w a (atS p.ins a.pc).bR (atS p.ins a.pc).bN) = A at ha ⊢
  generalize maskS p.w (valS p.w b (atS p.ins a.pc).aR (atS p.ins a.pc).aN + valS p.w b (atS p.ins a.pc).bR (atS p.ins a.pc).bN) = B at hb ⊢
  generalize valS p.w a (atS p.ins a.pc).aR (atS p.ins a.pc).aN = a1 at ha ⊢
  generalize valS p.w a (atS p.ins a.pc).bR (atS p.ins a.pc).bN = a2 at ha ⊢
  generalize valS p.w b (atS p.ins a.pc).aR (atS p.ins a.pc).aN = b1 at hb ⊢
  generalize valS p.w b (atS p.ins a.pc).bR (atS p.ins a.pc).bN = b2 at hb ⊢
  generalize atS p.ins a.pc = i at *
  unfold stepB at *
  by_cases k1 : i.kind = 1 ∨ i.kind = 4
  · simp only [if_pos k1]
    exact ⟨by first | rfl | exact trivial, fun _ => ⟨by dsimp only; rw [h1], by dsimp only; rw [(g1 _).1, (g2 _).1, h2]⟩⟩
  simp only [if_neg k1] at *
  by_cases k2 : i.kind = 2
  · simp only [if_pos k2] at *
    split at ha
    · split at hb
      · rename_i c1 c2
        rw [if_pos c1, if_pos c2]
        exact ⟨by first | rfl | exact trivial, fun _ => ⟨by dsimp only; rw [h1], by dsimp only; rw [(g1 _).1, (g2 _).1, h2]⟩⟩
      · cases hb
    · cases ha
  simp only [if_neg k2] at *
  by_cases k3 : i.kind = 3
  · simp only [if_pos k3] at *
    split at ha
    · split at hb
      · rename_i c1 c2
        rw [if_pos c1, if_pos c2]
        exact ⟨by first | rfl | exact trivial, fun _ => ⟨by dsimp only; rw [h1], h2⟩⟩
      · cases hb
    · cases ha
  simp only [if_neg k3] at *
  by_cases k4 : i.kind = 5 ∨ i.kind = 7
  · simp only [if_pos k4] at *
    exact ⟨by first | rfl | exact trivial, fun h => ⟨by simpa using h, h2⟩⟩
  simp only [if_neg k4] at *
  by_cases k5 : i.kind = 6
  · simp only [if_pos k5] at *
    exact ⟨by first | rfl | exact trivial, fun h => ⟨rfl, h2⟩⟩
  simp only [if_neg k5] at *
  by_cases k6 : i.kind = 8
  · simp only [if_pos k6] at *
    split at ha
    · cases ha
    · split at hb
      · cases hb
      · rename_i c1 c2
        rw [if_neg c1, if_neg c2]
        exact ⟨by first | rfl | exact trivial, fun h => ⟨rfl, by dsimp only; rw [h1, h2]⟩⟩
  simp only [if_neg k6] at *
  by_cases k7 : i.kind = 9
  · simp only [if_pos k7] at *
    split at ha
    · cases ha
    · split at hb
      · cases hb
      · rename_i c1 c2
        rw [if_neg c1, if_neg c2]
        exact ⟨by first | rfl | exact trivial, fun h => ⟨by dsimp only; rw [h2], by dsimp only; rw [h2]⟩⟩
  simp only [if_neg k7] at *
  by_cases k8 : i.kind = 10
  · simp only [if_pos k8] at *
    exact ⟨by first | rfl | exact trivial, fun h => ⟨by dsimp only; rw [h1], h2⟩⟩
  simp only [if_neg k8] at *
  split at ha <;> cases ha
theorem run_zero {p : Prg} {n : Nat} {s : Sta} (h : (runS p n s).2.2.1 = 0) : n = 0 := by
  cases n with
  | zero => rfl
  | succ n =>
    exfalso
    by_cases h0 : (stepS p s).2.2 = 0
    · rw [runS_go h0] at h
      have := (run_len p n (stepS p s).1).2.2.2.1
      dsimp only at h
      omega
    · rw [runS_stop h0] at h
      cases h
/-- What is the same with more fuel was the same with less. -/
theorem trace_less (p : Prg) (m : Nat) : ∀ (n : Nat) {a b : Sta}, Lk a b → trS p (n + m) a = trS p (n + m) b → trS p n a = trS p n b
  | 0, a, b, _, _ => rfl
  | n + 1, a, b, hl, h => by
    rw [show n + 1 + m = n + m + 1 by omega] at h
    by_cases ha : (stepS p a).2.2 = 0
    · by_cases hb : (stepS p b).2.2 = 0
      · obtain ⟨h1, h2⟩ := step_lock p hl ha hb
        unfold trS at h ⊢
        rw [runS_go ha, runS_go hb] at h
        rw [runS_go ha, runS_go hb]
        simp only [Prod.mk.injEq] at h ⊢
        obtain ⟨g1, g2, g3⟩ := h
        obtain ⟨g4, g5⟩ := List.append_inj g1 h1
        have ih := trace_less p m n (h2 g4) (by unfold trS; rw [g5, g3, show (runS p (n + m) (stepS p a).1).2.2.1 = (runS p (n + m) (stepS p b).1).2.2.1 by omega])
        unfold trS at ih
        simp only [Prod.mk.injEq] at ih
        obtain ⟨i1, i2, i3⟩ := ih
        exact ⟨by rw [g4, i1], by rw [i2], i3⟩
      · exfalso
        unfold trS at h
        rw [runS_go ha, runS_stop hb] at h
        simp only [Prod.mk.injEq] at h
        have h0 := run_zero (p := p) (n := n + m) (s := (stepS p a).1) (by omega)
        have hn : n = 0 ∧ m = 0 := by omega
        obtain ⟨rfl, rfl⟩ := hn
        exact hb (by rw [← h.2.2]; rfl)
    · by_cases hb : (stepS p b).2.2 = 0
      · exfalso
        unfold trS at h
        rw [runS_go hb, runS_stop ha] at h
        simp only [Prod.mk.injEq] at h
        have h0 := run_zero (p := p) (n := n + m) (s := (stepS p b).1) (by omega)
        have hn : n = 0 ∧ m = 0 := by omega
        obtain ⟨rfl, rfl⟩ := hn
        exact ha (by rw [h.2.2]; rfl)
      · unfold trS at h ⊢
        rw [runS_stop ha, runS_stop hb] at h ⊢
        exact h
theorem run_fuel (p : Prg) (f : Int) : ∀ (n : Nat) (s : Sta), runS { p with fuel := f } n s = runS p n s
  | 0, _ => rfl
  | n + 1, s => by
    have e : stepS { p with fuel := f } s = stepS p s := rfl
    by_cases h : (stepS p s).2.2 = 0
    · rw [runS_go h, runS_go (p := { p with fuel := f }) (by rw [e]; exact h), e, run_fuel p f n]
    · rw [runS_stop h, runS_stop (p := { p with fuel := f }) (by rw [e]; exact h), e]
theorem differ_fuel (p : Prg) (f : Int) (a b : Sta) : differS { p with fuel := f } a b = !decide (trS p f.toNat a = trS p f.toNat b) := by
  unfold differS trS
  simp only [run_fuel]
theorem differ_more (p : Prg) {f : Int} (hf : 0 ≤ f) {a b : Sta} (hl : Lk a b) (h : differS { p with fuel := f } a b = true) : differS { p with fuel := f + 5 } a b = true := by
  rw [differ_fuel] at h ⊢
  simp only [Bool.not_eq_true', decide_eq_false_iff_not] at h ⊢
  rw [show (f + 5).toNat = f.toNat + 5 by omega]
  exact fun he => h (trace_less p 5 f.toNat hl he)
end Go.Proofs.Ytclabjihjopclaa.Ax
end

section
/- Layer 19: what the laws look at: hold, less. -/
namespace Go.Proofs.Ytclabjihjopclaa.Ax
open Go.RowKit
set_option linter.unusedVariables false
set_option linter.unusedSimpArgs false
noncomputable def v_count : Prg × Int → Int × Bool := fun x => countS x.1 x.2
noncomputable def sh_count : Int × Bool → RR := fun y => rib y
theorem e_count (x : Prg × Int) : sh_count (v_count x) = c_count.ans x := rfl
noncomputable def v_pAt : Prg × Int → Sta × Sta × Bool := fun x => atP x.1 x.2
noncomputable def sh_pAt : Sta × Sta × Bool → RR := fun y => rpair y
theorem e_pAt (x : Prg × Int) : sh_pAt (v_pAt x) = c_pAt.ans x := rfl
def rdPSB : List A → Prg × Sta × Bool
  | [.agg l, .agg s, .c (.bool b)] => (Prg.of l, Sta.of s, b)
  | _ => default
def rint (l : List Int) : RR := .c (.new 1 (rowsOn l))
def c_hold : FT (Prg × Sta × Bool) := ⟨48, fun x => [ap x.1, as_ x.2.1, .c (.bool x.2.2)], rdPSB, fun x => Mems x.1.mems ∧ x.2.1.mem.length = cellsS x.1.mems, fun x => rint (holdV x.1 x.2.1 x.2.2), false, fun x => by simp [ap, as_, rdPSB]⟩
noncomputable def a_hold : FnA := (fnA Try.prog Try.f48 3 [(3, [2, 4, 7, 11, 12, 13, 1000007000000900001001, 1000011000000900002003])]).getD ⟨0, .skip, [], []⟩
noncomputable def s_hold : Sp := spT [c_rPlaces.gfe v_rPlaces sh_rPlaces e_rPlaces]
theorem s_hold_sound : s_hold.sound Try.prog := spT_sound fun e he => by
  simp only [List.mem_cons, List.not_mem_nil, or_false] at he
  rcases he with rfl
  · exact FT.gfe_good c_rPlaces_good
def F_hold (b : Bool) (s : Sta) (q : List (List D)) (nq n : Nat) (R : List (List D)) (nn i : Int) : St := ⟨mkS 48 [(2, .c (.d (.bool b))), (4, vp 256), (7, vo 900001 n), (11, vo 900002 nq), (12, vi nn), (13, vi i)], [(256, bx s.cells), (900001, ba 1 R), (900002, ba 3 q)]⟩
set_option maxRecDepth 100000 in
theorem t_hold (p : Prg) (s : Sta) (b : Bool) : a_hold.start s_hold 400 [ap p, as_ s, .c (.bool b)] =
(VC.need (PreOk c_rPlaces p [A.agg (Prg.cells p)])
(VC.all (v_rPlaces { w := p.w, window := p.window, fuel := p.fuel, r0 := p.r0, r1 := p.r1, r2 := p.r2, r3 := p.r3, mems := listOf PMem (rowsOn p.mems), labels := listOf PLabel (rowsOn p.labels), ins := listOf Ins (rowsOn p.ins) }) fun (y3 : List Place) =>
(FnA.at_ a_hold 0 (F_hold b s (rowsOn y3) (List.length (rowsOn y3)) (0 : Nat) [] (↑(List.length (rowsOn y3)) : Int) (0 : Int))))) := by kernel_rfl
set_option maxRecDepth 100000 in
theorem t_hold0 (b : Bool) (s : Sta) (q : List (List D)) (nq n : Nat) (R : List (List D)) (nn i : Int) : a_hold.round s_hold 400 0 (F_hold b s q nq n R nn i) =
(VC.br (decide (i < nn))
 (VC.need ((0 : Int) ≤ i ∧ i < (↑nq : Int))
 (VC.need (Int.toNat i < List.length q ∧ List.length (rowAt q (Int.toNat i)) = (3 : Nat) ∧ okSh [Kd.bool, Kd.int IntKind.i64, Kd.bool] (List.drop (0 : Nat) (rowAt q (Int.toNat i))))
 (VC.br (if true = true then !asBool (List.getD (List.drop (0 : Nat) (rowAt q (Int.toNat i))) (2 : Nat) D.nilp) == b else asBool (List.getD (List.drop (0 : Nat) (rowAt q (Int.toNat i))) (2 : Nat) D.nilp) == b)
  (FnA.at_ a_hold 0 (F_hold b s q nq n R nn (IntKind.wrap IntKind.i64 (i + (1 : Int)))))
  (VC.br (asBool (List.getD (List.drop (0 : Nat) (rowAt q (Int.toNat i))) (0 : Nat) D.nilp))
   (VC.br (decide (asInt (List.getD (List.drop (0 : Nat) (rowAt q (Int.toNat i))) (1 : Nat) D.nilp) = (0 : Int)))
    (VC.need ((List.all [[D.int IntKind.i64 s.r0]] fun r ↦ List.length r == (1 : Nat)) = true ∧ (List.all R fun r ↦ List.length r == (1 : Nat)) = true ∧ (List.length R + List.length [[D.int IntKind.i64 s.r0]] + (100 : Nat)) * (9 : Nat) ≤ (70368744177664 : Nat))
    (FnA.at_ a_hold 0 (F_hold b s q nq (List.length R + List.length [[D.int IntKind.i64 s.r0]]) (R ++ [[D.int IntKind.i64 s.r0]]) nn (IntKind.wrap IntKind.i64 (i + (1 : Int))))))
    (VC.br (decide (asInt (List.getD (List.drop (0 : Nat) (rowAt q (Int.toNat i))) (1 : Nat) D.nilp) = (1 : Int)))
     (VC.need ((List.all [[D.int IntKind.i64 s.r1]] fun r ↦ List.length r == (1 : Nat)) = true ∧ (List.all R fun r ↦ List.length r == (1 : Nat)) = true ∧ (List.length R + List.length [[D.int IntKind.i64 s.r1]] + (100 : Nat)) * (9 : Nat) ≤ (70368744177664 : Nat))
     (FnA.at_ a_hold 0 (F_hold b s q nq (List.length R + List.length [[D.int IntKind.i64 s.r1]]) (R ++ [[D.int IntKind.i64 s.r1]]) nn (IntKind.wrap IntKind.i64 (i + (1 : Int))))))
     (VC.br (decide (asInt (List.getD (List.drop (0 : Nat) (rowAt q (Int.toNat i))) (1 : Nat) D.nilp) = (2 : Int)))
      (VC.need ((List.all [[D.int IntKind.i64 s.r2]] fun r ↦ List.length r == (1 : Nat)) = true ∧ (List.all R fun r ↦ List.length r == (1 : Nat)) = true ∧ (List.length R + List.length [[D.int IntKind.i64 s.r2]] + (100 : Nat)) * (9 : Nat) ≤ (70368744177664 : Nat))
      (FnA.at_ a_hold 0 (F_hold b s q nq (List.length R + List.length [[D.int IntKind.i64 s.r2]]) (R ++ [[D.int IntKind.i64 s.r2]]) nn (IntKind.wrap IntKind.i64 (i + (1 : Int))))))
      (VC.br (decide (asInt (List.getD (List.drop (0 : Nat) (rowAt q (Int.toNat i))) (1 : Nat) D.nilp) = (3 : Int)))
       (VC.need ((List.all [[D.int IntKind.i64 s.r3]] fun r ↦ List.length r == (1 : Nat)) = true ∧ (List.all R fun r ↦ List.length r == (1 : Nat)) = true ∧ (List.length R + List.length [[D.int IntKind.i64 s.r3]] + (100 : Nat)) * (9 : Nat) ≤ (70368744177664 : Nat))
       (FnA.at_ a_hold 0 (F_hold b s q nq (List.length R + List.length [[D.int IntKind.i64 s.r3]]) (R ++ [[D.int IntKind.i64 s.r3]]) nn (IntKind.wrap IntKind.i64 (i + (1 : Int))))))
       VC.ff))))
   (VC.br (decide (asInt (List.getD (List.drop (0 : Nat) (rowAt q (Int.toNat i))) (1 : Nat) D.nilp) < (↑(List.length (rowsOn s.mem)) : Int)))
    (VC.need ((0 : Int) ≤ asInt (List.getD (List.drop (0 : Nat) (rowAt q (Int.toNat i))) (1 : Nat) D.nilp) ∧ asInt (List.getD (List.drop (0 : Nat) (rowAt q (Int.toNat i))) (1 : Nat) D.nilp) < (↑(List.length (rowsOn s.mem)) : Int) ∧ List.length (rowAt (rowsOn s.mem) (Int.toNat (asInt (List.getD (List.drop (0 : Nat) (rowAt q (Int.toNat i))) (1 : Nat) D.nilp)))) = (1 : Nat))
    (VC.need (okSh [Kd.int IntKind.i64] (rowAt (rowsOn s.mem) (Int.toNat (asInt (List.getD (List.drop (0 : Nat) (rowAt q (Int.toNat i))) (1 : Nat) D.nilp)))))
    (VC.need ((List.all [[D.int IntKind.i64 (asInt (List.getD (rowAt (rowsOn s.mem) (Int.toNat (asInt (List.getD (List.drop (0 : Nat) (rowAt q (Int.toNat i))) (1 : Nat) D.nilp)))) (0 : Nat) D.nilp))]] fun r ↦ List.length r == (1 : Nat)) = true ∧ (List.all R fun r ↦ List.length r == (1 : Nat)) = true ∧ (List.length R + List.length [[D.int IntKind.i64 (asInt (List.getD (rowAt (rowsOn s.mem) (Int.toNat (asInt (List.getD (List.drop (0 : Nat) (rowAt q (Int.toNat i))) (1 : Nat) D.nilp)))) (0 : Nat) D.nilp))]] + (100 : Nat)) * (9 : Nat) ≤ (70368744177664 : Nat))
    (FnA.at_ a_hold 0 (F_hold b s q nq (List.length R + List.length [[D.int IntKind.i64 (asInt (List.getD (rowAt (rowsOn s.mem) (Int.toNat (asInt (List.getD (List.drop (0 : Nat) (rowAt q (Int.toNat i))) (1 : Nat) D.nilp)))) (0 : Nat) D.nilp))]]) (R ++ [[D.int IntKind.i64 (asInt (List.getD (rowAt (rowsOn s.mem) (Int.toNat (asInt (List.getD (List.drop (0 : Nat) (rowAt q (Int.toNat i))) (1 : Nat) D.nilp)))) (0 : Nat) D.nilp))]]) nn (IntKind.wrap IntKind.i64 (i + (1 : Int))))))))
    (FnA.at_ a_hold 0 (F_hold b s q nq n R nn (IntKind.wrap IntKind.i64 (i + (1 : Int))))))))))
 (VC.ret (some (RR.c (Rc.new (1 : Nat) R))))) := by kernel_rfl
theorem filter_take (b : Bool) (q : List Place) (f : Place → Int) (k : Nat) (h : k < q.length) : ((q.take (k + 1)).filter fun x => x.secret == b).map f = ((q.take k).filter fun x => x.secret == b).map f ++ (if (q[k].secret == b) = true then [f q[k]] else []) := by
  rw [List.take_succ_eq_append_getElem h, List.filter_append, List.map_append]
  congr 1
  rw [List.filter_cons]
  split <;> rfl
theorem rd_getN {α : Type} [Row α] [Inhabited α] (q : List α) (i : Int) (h0 : 0 ≤ i) (h : i < q.length) : rd q i = q[i.toNat] := by
  unfold rd
  rw [List.getD_eq_getElem?_getD, List.getElem?_eq_getElem (by omega)]
  rfl
theorem l_hold0 (b : Bool) (s : Sta) (q : List Place) (hq : PlacesOk q s.mem.length) (hl : q.length ≤ 10000) : ∀ i : Int × Nat × List (List D), (fun (i : Int × Nat × List (List D)) => 0 ≤ i.1 ∧ i.1 ≤ q.length ∧ OnL i.2.2 i.2.1 (((q.take i.1.toNat).filter fun x => x.secret == b).map (holdP s))) i → (a_hold.at_ 0 ((fun (i : Int × Nat × List (List D)) => F_hold b s (rowsOn q) q.length i.2.1 i.2.2 q.length i.1) i)).holds s_hold.cx a_hold.rs (fun r => r.le (rint ((q.filter fun x => x.secret == b).map (holdP s)))) := by
  refine loop_rule (a := a_hold) (j := 0) (m := 400) s_hold_sound (fun (i : Int × Nat × List (List D)) => F_hold b s (rowsOn q) q.length i.2.1 i.2.2 q.length i.1) (fun (i : Int × Nat × List (List D)) => 0 ≤ i.1 ∧ i.1 ≤ q.length ∧ OnL i.2.2 i.2.1 (((q.take i.1.toNat).filter fun x => x.secret == b).map (holdP s))) (fun (i : Int × Nat × List (List D)) => ((q.length : Int) - i.1).toNat) ?_
  rintro ⟨i, n, R⟩ h_inv ih
  try dsimp only at h_inv
  replace ih := fun (v0 : Int) (v1 : Nat) (v2 : List (List D)) => ih (v0, v1, v2)
  try dsimp only at ih
  show VC.holds _ _ _ (a_hold.round s_hold 400 0 (F_hold b s (rowsOn q) q.length n R q.length i))
  rw [t_hold0]
  try simp only [asRows_sl, asInt_int, asBool_bool, asStr_str, listOf_rowsOn, List.drop_zero, Prg.eta, Sta.eta, rowsOn_length, getD_drop, Nat.reduceAdd, rd_int, rd_PMem_name, rd_PMem_secret, rd_PMem_n, rd_PLabel_name, rd_PLabel_at_, rd_Ins_kind, rd_Ins_op, rd_Ins_d, rd_Ins_aR, rd_Ins_aN, rd_Ins_bR, rd_Ins_bN, rd_Ins_name, rd_Ins_target, rd_Ent_pc, rd_Ent_val, rd_Ent_addr, rd_Ent_fro, rd_Ent_next, rd_Ent_done, rd_Ent_known, rd_Ent_fault, rd_Place_reg, rd_Place_n, rd_Place_secret, rd_Obs_kind, rd_Obs_at_, rd_Dir_kind, rd_Dir_n, Prg.of_cells, Sta.of_cells]
  obtain ⟨h0, h1, h2⟩ := h_inv
  have w1 : IntKind.wrap .i64 (i + 1) = i + 1 := wrap_small _ (by omega) (by omega)
  simp only [w1]
  have hl2 : (((q.take i.toNat).filter fun x => x.secret == b).map (holdP s)).length ≤ 10000 := by
    rw [List.length_map]
    exact Nat.le_trans (List.length_filter_le _ _) (by simp only [List.length_take]; omega)
  have en : (i + 1).toNat = i.toNat + 1 := by omega
  refine br_dec (fun hd => ?_) (fun hd => ?_)
  · have ht := filter_take b q (holdP s) i.toNat (by omega)
    have hx := rd_getN q i h0 hd
    rw [← hx] at ht
    have hk := hq (rd q i) (by rw [hx]; exact List.getElem_mem _)
    refine ⟨⟨h0, hd⟩, ⟨by omega, by rw [rowAt_on q i h0 hd]; rfl, okSh_ok _ q i (fun _ => rfl) h0 hd⟩, ?_⟩
    refine br_holds (fun hb => ?_) (fun hb => ?_)
    · have hb : ((rd q i).secret == b) = false := by simpa using hb
      rw [hb, if_neg (by simp), List.append_nil] at ht
      exact ih _ _ _ ⟨by omega, by omega, by rw [en, ht]; exact h2⟩ (by omega)
    · have hb : ((rd q i).secret == b) = true := by simpa using hb
      rw [hb, if_pos rfl] at ht
      have fin : ∀ v : Int, holdP s (rd q i) = v → OnL (R ++ [[D.int .i64 v]]) (R.length + [[D.int .i64 v]].length) (((q.take (i + 1).toNat).filter fun x => x.secret == b).map (holdP s)) := fun v hv => by
        rw [en, ht, hv]; exact h2.snoc v
      refine br_holds (fun hr => ?_) (fun hr => ?_)
      · obtain ⟨k1, k2⟩ := hk.1 hr
        have hp : ∀ v, s.reg (rd q i).n = v → holdP s (rd q i) = v := fun v e => by unfold holdP; rw [if_pos hr]; exact e
        refine br_dec (fun e => ?_) (fun e0 => br_dec (fun e => ?_) (fun e1 => br_dec (fun e => ?_) (fun e2 => br_dec (fun e => ?_) (fun e3 => by omega))))
        all_goals exact ⟨app_ok h2 rfl rfl (by simp only [List.length_cons, List.length_nil]; omega), ih _ _ _ ⟨by omega, by omega, fin _ (hp _ (by rw [e]; rfl))⟩ (by omega)⟩
      · have hr : (rd q i).reg = false := by simpa using hr
        obtain ⟨k1, k2⟩ := hk.2 hr
        refine br_dec (fun e => ?_) (fun e => by omega)
        refine ⟨⟨k1, k2, by rw [rowAt_on s.mem _ k1 k2]; rfl⟩, okSh_ok _ s.mem _ (fun _ => rfl) k1 k2, app_ok h2 rfl rfl (by simp only [List.length_cons, List.length_nil]; omega), ih _ _ _ ⟨by omega, by omega, fin _ ?_⟩ (by omega)⟩
        unfold holdP
        rw [if_neg (by simp [hr])]
  · have hi : i.toNat = q.length := by omega
    rw [hi, List.take_length] at h2
    refine ret_le ?_
    rw [h2.1]
    exact RR.le_refl _
theorem c_hold_good : c_hold.fe.Good Try.prog := by
  refine FT.good c_hold ⟨Try.f48, by kernel_rfl, by decide +kernel, by kernel_rfl⟩ (fun ⟨p, s, b⟩ => by first | rfl | simp [c_hold, rrRef, rpair, rsplit, rnewI, rnewE, rstab, rplaces, ri, rb, rib, rnum, rby, rss, rrun, rstep, rins, rint, Sta.fresh]) fun ⟨p, s, b⟩ hp => ?_
  refine acalls_le s_hold_sound (fn := Try.f48) (a := a_hold) (nargs := 3) (tbl := [(3, [2, 4, 7, 11, 12, 13, 1000007000000900001001, 1000011000000900002003])]) (by kernel_rfl) (by kernel_rfl) rfl (m := 400) ?_
  show VC.holds _ _ _ (a_hold.start s_hold 400 [ap p, as_ s, .c (.bool b)])
  rw [t_hold]
  try simp only [asRows_sl, asInt_int, asBool_bool, asStr_str, listOf_rowsOn, List.drop_zero, Prg.eta, Sta.eta, rowsOn_length, getD_drop, Nat.reduceAdd, rd_int, rd_PMem_name, rd_PMem_secret, rd_PMem_n, rd_PLabel_name, rd_PLabel_at_, rd_Ins_kind, rd_Ins_op, rd_Ins_d, rd_Ins_aR, rd_Ins_aN, rd_Ins_bR, rd_Ins_bN, rd_Ins_name, rd_Ins_target, rd_Ent_pc, rd_Ent_val, rd_Ent_addr, rd_Ent_fro, rd_Ent_next, rd_Ent_done, rd_Ent_known, rd_Ent_fault, rd_Place_reg, rd_Place_n, rd_Place_secret, rd_Obs_kind, rd_Obs_at_, rd_Dir_kind, rd_Dir_n, Prg.of_cells, Sta.of_cells]
  try simp only [c_hold] at hp
  obtain ⟨hm, hs⟩ := hp
  have hl := places_len p hm
  have hok := places_ok p hm
  rw [← hs] at hok
  refine ⟨PreOk.mk hm rfl, all_holds fun y hy => ?_⟩
  replace hy : y = placesS p := by rw [hy]; simp [v_rPlaces]
  subst hy
  exact l_hold0 b s _ hok (by omega) (0, 0, []) ⟨by simp, by simp, OnL.nil⟩
def rdLL2 : List A → List Int × List Int
  | [.c (.sl l), .c (.sl m)] => (listOf Int l, listOf Int m)
  | _ => default
def c_less : FT (List Int × List Int) := ⟨49, fun x => [al x.1, al x.2], rdLL2, fun x => x.1.length ≤ 1000000000 ∧ x.2.length ≤ 1000000000, fun x => rb (lessL x.1 x.2), false, fun x => by simp [al, rdLL2]⟩
noncomputable def a_less : FnA := (fnA Try.prog Try.f49 2 [(2, [0, 1, 5])]).getD ⟨0, .skip, [], []⟩
def s_less : Sp := spT []
theorem s_less_sound : s_less.sound Try.prog := spT_sound fun e he => by cases he
def F_less (a b : List Int) (i : Int) : St := ⟨mkS 36 [(0, vr (rowsOn a)), (1, vr (rowsOn b)), (5, vi i)], []⟩
set_option maxRecDepth 100000 in
theorem t_less (a b : List Int) : a_less.start s_less 400 [al a, al b] =
(FnA.at_ a_less 0 (F_less a b (0 : Int))) := by kernel_rfl
set_option maxRecDepth 100000 in
theorem t_less0 (a b : List Int) (i : Int) : a_less.round s_less 400 0 (F_less a b i) =
(VC.br (decide (i < (↑(List.length (rowsOn a)) : Int)))
 (VC.br (decide (i < (↑(List.length (rowsOn b)) : Int)))
  (VC.need ((0 : Int) ≤ i ∧ i < (↑(List.length (rowsOn a)) : Int) ∧ List.length (rowAt (rowsOn a) (Int.toNat i)) = (1 : Nat))
  (VC.need (okSh [Kd.int IntKind.i64] (rowAt (rowsOn a) (Int.toNat i)))
  (VC.need ((0 : Int) ≤ i ∧ i < (↑(List.length (rowsOn b)) : Int) ∧ List.length (rowAt (rowsOn b) (Int.toNat i)) = (1 : Nat))
  (VC.need (okSh [Kd.int IntKind.i64] (rowAt (rowsOn b) (Int.toNat i)))
  (VC.br (asInt (List.getD (rowAt (rowsOn a) (Int.toNat i)) (0 : Nat) D.nilp) != asInt (List.getD (rowAt (rowsOn b) (Int.toNat i)) (0 : Nat) D.nilp))
   (VC.need ((0 : Int) ≤ i ∧ i < (↑(List.length (rowsOn a)) : Int) ∧ List.length (rowAt (rowsOn a) (Int.toNat i)) = (1 : Nat))
   (VC.need (okSh [Kd.int IntKind.i64] (rowAt (rowsOn a) (Int.toNat i)))
   (VC.need ((0 : Int) ≤ i ∧ i < (↑(List.length (rowsOn b)) : Int) ∧ List.length (rowAt (rowsOn b) (Int.toNat i)) = (1 : Nat))
   (VC.need (okSh [Kd.int IntKind.i64] (rowAt (rowsOn b) (Int.toNat i)))
   (VC.ret (some (RR.c (Rc.d (D.bool (decide (asInt (List.getD (rowAt (rowsOn a) (Int.toNat i)) (0 : Nat) D.nilp) < asInt (List.getD (rowAt (rowsOn b) (Int.toNat i)) (0 : Nat) D.nilp))))))))))))
   (FnA.at_ a_less 0 (F_less a b (IntKind.wrap IntKind.i64 (i + (1 : Int))))))))))
  (VC.ret (some (RR.c (Rc.d (D.bool false))))))
 (VC.ret (some (RR.c (Rc.d (D.bool false)))))) := by kernel_rfl
theorem lessL_drop (a b : List Int) (i : Nat) (ha : i < a.length) (hb : i < b.length) : lessL (a.drop i) (b.drop i) = if a[i] = b[i] then lessL (a.drop (i + 1)) (b.drop (i + 1)) else decide (a[i] < b[i]) := by
  rw [List.drop_eq_getElem_cons ha, List.drop_eq_getElem_cons hb]
  rfl
theorem l_less0 (a b : List Int) (ha : a.length ≤ 1000000000) (hb : b.length ≤ 1000000000) : ∀ i : Int, (fun (i : Int) => 0 ≤ i ∧ i ≤ a.length ∧ i ≤ b.length ∧ lessL (a.drop i.toNat) (b.drop i.toNat) = lessL a b) i → (a_less.at_ 0 ((fun (i : Int) => F_less a b i) i)).holds s_less.cx a_less.rs (fun r => r.le (rb (lessL a b))) := by
  refine loop_rule (a := a_less) (j := 0) (m := 400) s_less_sound (fun (i : Int) => F_less a b i) (fun (i : Int) => 0 ≤ i ∧ i ≤ a.length ∧ i ≤ b.length ∧ lessL (a.drop i.toNat) (b.drop i.toNat) = lessL a b) (fun (i : Int) => ((a.length : Int) - i).toNat) ?_
  rintro i h_inv ih
  try dsimp only at h_inv
  show VC.holds _ _ _ (a_less.round s_less 400 0 (F_less a b i))
  rw [t_less0]
  try simp only [asRows_sl, asInt_int, asBool_bool, asStr_str, listOf_rowsOn, List.drop_zero, Prg.eta, Sta.eta, rowsOn_length, getD_drop, Nat.reduceAdd, rd_int, rd_PMem_name, rd_PMem_secret, rd_PMem_n, rd_PLabel_name, rd_PLabel_at_, rd_Ins_kind, rd_Ins_op, rd_Ins_d, rd_Ins_aR, rd_Ins_aN, rd_Ins_bR, rd_Ins_bN, rd_Ins_name, rd_Ins_target, rd_Ent_pc, rd_Ent_val, rd_Ent_addr, rd_Ent_fro, rd_Ent_next, rd_Ent_done, rd_Ent_known, rd_Ent_fault, rd_Place_reg, rd_Place_n, rd_Place_secret, rd_Obs_kind, rd_Obs_at_, rd_Dir_kind, rd_Dir_n, Prg.of_cells, Sta.of_cells]
  obtain ⟨h0, h1, h2, h3⟩ := h_inv
  have w1 : IntKind.wrap .i64 (i + 1) = i + 1 := wrap_small _ (by omega) (by omega)
  simp only [w1]
  have en : (i + 1).toNat = i.toNat + 1 := by omega
  refine br_dec (fun hd => br_dec (fun he => ?_) (fun he => ?_)) (fun hd => ?_)
  · have hx := rd_getN a i h0 hd
    have hy := rd_getN b i h0 he
    have hz := lessL_drop a b i.toNat (by omega) (by omega)
    rw [← hx, ← hy, h3] at hz
    have g1 : (0 ≤ i ∧ i < (a.length : Int) ∧ (rowAt (rowsOn a) i.toNat).length = 1) := ⟨h0, hd, by rw [rowAt_on a i h0 hd]; rfl⟩
    have g2 : (0 ≤ i ∧ i < (b.length : Int) ∧ (rowAt (rowsOn b) i.toNat).length = 1) := ⟨h0, he, by rw [rowAt_on b i h0 he]; rfl⟩
    have g3 := okSh_ok [Kd.int .i64] a i (fun _ => rfl) h0 hd
    have g4 := okSh_ok [Kd.int .i64] b i (fun _ => rfl) h0 he
    refine ⟨g1, g3, g2, g4, br_bne (fun hn => ?_) (fun hn => ?_)⟩
    · refine ⟨g1, g3, g2, g4, ret_le ?_⟩
      rw [hz, if_neg hn]
      exact RR.le_refl _
    · rw [if_pos hn] at hz
      exact ih _ ⟨by omega, by omega, by omega, by rw [en]; exact hz.symm⟩ (by omega)
  · have e : b.drop i.toNat = [] := List.drop_eq_nil_of_le (by omega)
    have e2 : lessL a b = false := by rw [← h3, e]; cases a.drop i.toNat <;> rfl
    refine ret_le ?_
    rw [e2]; exact RR.le_refl _
  · have e : a.drop i.toNat = [] := List.drop_eq_nil_of_le (by omega)
    have e2 : lessL a b = false := by rw [← h3, e]; cases b.drop i.toNat <;> rfl
    refine ret_le ?_
    rw [e2]; exact RR.le_refl _
theorem c_less_good : c_less.fe.Good Try.prog := by
  refine FT.good c_less ⟨Try.f49, by kernel_rfl, by decide +kernel, by kernel_rfl⟩ (fun ⟨a, b⟩ => by first | rfl | simp [c_less, rrRef, rpair, rsplit, rnewI, rnewE, rstab, rplaces, ri, rb, rib, rnum, rby, rss, rrun, rstep, rins, rint, Sta.fresh]) fun ⟨a, b⟩ hp => ?_
  refine acalls_le s_less_sound (fn := Try.f49) (a := a_less) (nargs := 2) (tbl := [(2, [0, 1, 5])]) (by kernel_rfl) (by kernel_rfl) rfl (m := 400) ?_
  show VC.holds _ _ _ (a_less.start s_less 400 [al a, al b])
  rw [t_less]
  try simp only [asRows_sl, asInt_int, asBool_bool, asStr_str, listOf_rowsOn, List.drop_zero, Prg.eta, Sta.eta, rowsOn_length, getD_drop, Nat.reduceAdd, rd_int, rd_PMem_name, rd_PMem_secret, rd_PMem_n, rd_PLabel_name, rd_PLabel_at_, rd_Ins_kind, rd_Ins_op, rd_Ins_d, rd_Ins_aR, rd_Ins_aN, rd_Ins_bR, rd_Ins_bN, rd_Ins_name, rd_Ins_target, rd_Ent_pc, rd_Ent_val, rd_Ent_addr, rd_Ent_fro, rd_Ent_next, rd_Ent_done, rd_Ent_known, rd_Ent_fault, rd_Place_reg, rd_Place_n, rd_Place_secret, rd_Obs_kind, rd_Obs_at_, rd_Dir_kind, rd_Dir_n, Prg.of_cells, Sta.of_cells]
  try simp only [c_less] at hp
  exact l_less0 a b hp.1 hp.2 0 ⟨by omega, by omega, by omega, rfl⟩
end Go.Proofs.Ytclabjihjopclaa.Ax
end

section
/- Layer 23: clas.Sequential. -/
namespace Go.Proofs.Ytclabjihjopclaa.Ax
open Go.RowKit
set_option linter.unusedVariables false
set_option linter.unusedSimpArgs false
def seqK (p : Prg) : Nat → Int → Int × Bool
  | 0, _ => (0, false)
  | m + 1, i => if ((atP p i).2.2 && differS p (atP p i).1 (atP p i).2.1) = true then (i, true) else seqK p m (i + 1)
def sequS (p : Prg) (most : Int) : Int × Bool × Bool := if (countS p most).2 = true then ((seqK p (countS p most).1.toNat 0).1, (seqK p (countS p most).1.toNat 0).2, true) else (0, false, false)
def rtri (x : Int × Bool × Bool) : RR := .tup [.inl (.d (.int .i64 x.1)), .inl (.d (.bool x.2.1)), .inl (.d (.bool x.2.2))]
theorem atP_small {p : Prg} (hw : okW p.w) (hm : Mems p.mems) (i : Int) : SmallS (atP p i).1 ∧ SmallS (atP p i).2.1 := by
  have hc := (places_len p hm).2
  by_cases h : 0 ≤ i ∧ i < 1000000 ∧ i < cntS p
  · obtain ⟨u, o, q, e, _⟩ := (atP_spec hw i).1 h
    obtain ⟨s1, a1, a2, a3, _⟩ := start_hold p hm (rowP p u o) (rowP_len p u o)
    obtain ⟨s2, b1, b2, b3, _⟩ := start_hold p hm (rowP p u q) (rowP_len p u q)
    rw [e, a1, b1]
    exact ⟨⟨by dsimp only; omega, by dsimp only; rw [a3]; decide⟩, ⟨by dsimp only; omega, by dsimp only; rw [b3]; decide⟩⟩
  · rw [(atP_spec hw i).2 h]
    exact ⟨⟨by decide, by decide⟩, ⟨by decide, by decide⟩⟩
def c_sequ : FT (Prg × Int) := ⟨68, fun x => [ap x.1, ai x.2], rdPIq, fun x => okW x.1.w ∧ Mems x.1.mems ∧ x.1.ins.length ≤ 1000000 ∧ x.1.fuel ≤ 1000000, fun x => rtri (sequS x.1 x.2), false, fun x => by simp [ap, ai, rdPIq]⟩
noncomputable def a_sequ : FnA := (fnA Try.prog Try.f68 2 [(5, [2, 21, 22])]).getD ⟨0, .skip, [], []⟩
noncomputable def s_sequ : Sp := spT [c_count.gfe v_count sh_count e_count, c_pAt.gfe v_pAt sh_pAt e_pAt, c_differ.gfe v_differ sh_differ e_differ]
theorem s_sequ_sound : s_sequ.sound Try.prog := spT_sound fun e he => by
  simp only [List.mem_cons, List.not_mem_nil, or_false] at he
  rcases he with rfl | rfl | rfl
  · exact FT.gfe_good c_count_good
  · exact FT.gfe_good c_pAt_good
  · exact FT.gfe_good c_differ_good
def F_sequ (p : Prg) (n i : Int) : St := ⟨mkS 41 [(2, vp 128), (21, vi n), (22, vi i)], [(128, bx p.cells)]⟩
set_option maxRecDepth 100000 in
theorem t_sequ (p : Prg) (most : Int) : a_sequ.start s_sequ 400 [ap p, ai most] =
(VC.need (PreOk c_count (Prg.of (Prg.cells p), most) [A.agg (Prg.cells p), A.c (D.int IntKind.i64 most)])
(VC.all (v_count (Prg.of (Prg.cells p), most)) fun (y2 : Int × Bool) =>
(VC.br (!y2.snd)
 (VC.ret (some (RR.tup [Sum.inl (Rc.d (D.int IntKind.i64 (0 : Int))), Sum.inl (Rc.d (D.bool false)), Sum.inl (Rc.d (D.bool false))])))
 (FnA.at_ a_sequ 0 (F_sequ p y2.fst (0 : Int)))))) := by kernel_rfl
set_option maxRecDepth 100000 in
theorem t_sequ0 (p : Prg) (n i : Int) : a_sequ.round s_sequ 400 0 (F_sequ p n i) =
(VC.br (decide (i < n))
 (VC.need (PreOk c_pAt (Prg.of (Prg.cells p), i) [A.agg (Prg.cells p), A.c (D.int IntKind.i64 i)])
 (VC.all (v_pAt (Prg.of (Prg.cells p), i)) fun (y3 : Sta × Sta × Bool) =>
 (VC.br (y3.snd.snd)
  (VC.need (PreOk c_differ (Prg.of (Prg.cells p), Sta.of (Sta.cells y3.fst), Sta.of (Sta.cells y3.snd.fst)) [A.agg (Prg.cells p), A.agg (Sta.cells y3.fst), A.agg (Sta.cells y3.snd.fst)])
  (VC.all (v_differ (Prg.of (Prg.cells p), Sta.of (Sta.cells y3.fst), Sta.of (Sta.cells y3.snd.fst))) fun (y4 : Bool) =>
  (VC.br (y4)
   (VC.ret (some (RR.tup [Sum.inl (Rc.d (D.int IntKind.i64 i)), Sum.inl (Rc.d (D.bool true)), Sum.inl (Rc.d (D.bool true))])))
   (FnA.at_ a_sequ 0 (F_sequ p n (IntKind.wrap IntKind.i64 (i + (1 : Int))))))))
  (FnA.at_ a_sequ 0 (F_sequ p n (IntKind.wrap IntKind.i64 (i + (1 : Int))))))))
 (VC.ret (some (RR.tup [Sum.inl (Rc.d (D.int IntKind.i64 (0 : Int))), Sum.inl (Rc.d (D.bool false)), Sum.inl (Rc.d (D.bool true))])))) := by kernel_rfl
theorem cntS_nonneg {p : Prg} (hw : okW p.w) : 0 ≤ cntS p := by
  have b1 := powS_pos hw (openS p).length
  have b2 := twoS_pos (powS_pos hw (secS p).length).1
  have : 0 ≤ powS p (openS p).length * twoS (powS p (secS p).length) := Int.mul_nonneg (by omega) b2.1
  unfold cntS farS; omega
theorem countS_le {p : Prg} (hw : okW p.w) (most : Int) : 0 ≤ (countS p most).1 ∧ (countS p most).1 ≤ 1000000 := by
  have := cntS_nonneg hw
  unfold countS
  split
  · exact ⟨by decide, by decide⟩
  · dsimp only; omega
theorem seqK_succ (p : Prg) (m : Nat) (i : Int) : seqK p (m + 1) i = if ((atP p i).2.2 && differS p (atP p i).1 (atP p i).2.1) = true then (i, true) else seqK p m (i + 1) := rfl
theorem l_sequ0 (p : Prg) (n : Int) (hw : okW p.w) (hm : Mems p.mems) (hi : p.ins.length ≤ 1000000) (hf : p.fuel ≤ 1000000) (hn : 0 ≤ n) (hn1 : n ≤ 1000000) : ∀ i : Int, (fun (i : Int) => 0 ≤ i ∧ i ≤ n ∧ seqK p (n - i).toNat i = seqK p n.toNat 0) i → (a_sequ.at_ 0 ((fun (i : Int) => F_sequ p n i) i)).holds s_sequ.cx a_sequ.rs (fun r => r.le (rtri ((seqK p n.toNat 0).1, (seqK p n.toNat 0).2, true))) := by
  refine loop_rule (a := a_sequ) (j := 0) (m := 400) s_sequ_sound (fun (i : Int) => F_sequ p n i) (fun (i : Int) => 0 ≤ i ∧ i ≤ n ∧ seqK p (n - i).toNat i = seqK p n.toNat 0) (fun (i : Int) => (n - i).toNat) ?_
  rintro i h_inv ih
  try dsimp only at h_inv
  show VC.holds _ _ _ (a_sequ.round s_sequ 400 0 (F_sequ p n i))
  rw [t_sequ0]
  try simp only [asRows_sl, asInt_int, asBool_bool, asStr_str, listOf_rowsOn, List.drop_zero, Prg.eta, Sta.eta, rowsOn_length, getD_drop, Nat.reduceAdd, rd_int, rd_PMem_name, rd_PMem_secret, rd_PMem_n, rd_PLabel_name, rd_PLabel_at_, rd_Ins_kind, rd_Ins_op, rd_Ins_d, rd_Ins_aR, rd_Ins_aN, rd_Ins_bR, rd_Ins_bN, rd_Ins_name, rd_Ins_target, rd_Ent_pc, rd_Ent_val, rd_Ent_addr, rd_Ent_fro, rd_Ent_next, rd_Ent_done, rd_Ent_known, rd_Ent_fault, rd_Place_reg, rd_Place_n, rd_Place_secret, rd_Obs_kind, rd_Obs_at_, rd_Dir_kind, rd_Dir_n, Prg.of_cells, Sta.of_cells]
  obtain ⟨h0, h1, h2⟩ := h_inv
  have w1 : IntKind.wrap .i64 (i + 1) = i + 1 := wrap_small _ (by omega) (by omega)
  simp only [w1]
  refine br_dec (fun hd => ?_) (fun hd => ?_)
  · obtain ⟨k, hk⟩ : ∃ k, (n - i).toNat = k + 1 := ⟨(n - i).toNat - 1, by omega⟩
    have hk2 : (n - (i + 1)).toNat = k := by omega
    rw [hk] at h2
    have hs := atP_small hw hm i
    rw [seqK_succ] at h2
    refine ⟨PreOk.mk ⟨hw, hm⟩ rfl, all_holds fun y hy => ?_⟩
    replace hy : y = atP p i := by rw [hy]; simp [v_pAt]
    rw [← hy] at h2 hs
    refine br_holds (fun ht => ?_) (fun ht => ?_)
    · refine ⟨PreOk.mk ⟨hm, hs.1, hs.2, hi, hf⟩ rfl, all_holds fun z hz => ?_⟩
      replace hz : z = differS p y.1 y.2.1 := by rw [hz]; simp [v_differ]
      rw [ht, ← hz, Bool.true_and] at h2
      refine br_holds (fun hz2 => ?_) (fun hz2 => ?_)
      · rw [if_pos hz2] at h2
        refine ret_le ?_
        rw [← h2]; exact RR.le_refl _
      · rw [if_neg (by simp [hz2])] at h2
        exact ih _ ⟨by omega, by omega, by rw [hk2]; exact h2⟩ (by omega)
    · rw [ht, Bool.false_and, if_neg (by simp)] at h2
      exact ih _ ⟨by omega, by omega, by rw [hk2]; exact h2⟩ (by omega)
  · have e : (n - i).toNat = 0 := by omega
    rw [e] at h2
    refine ret_le ?_
    rw [← h2]; exact RR.le_refl _
theorem c_sequ_good : c_sequ.fe.Good Try.prog := by
  refine FT.good c_sequ ⟨Try.f68, by kernel_rfl, by decide +kernel, by kernel_rfl⟩ (fun ⟨p, most⟩ => by first | rfl | simp [c_sequ, rrRef, rint, rpair, rsplit, rnewI, rnewE, rstab, rplaces, ri, rb, rib, rnum, rby, rss, rrun, rstep, rins, rtri, Sta.fresh]) fun ⟨p, most⟩ hp => ?_
  refine acalls_le s_sequ_sound (fn := Try.f68) (a := a_sequ) (nargs := 2) (tbl := [(5, [2, 21, 22])]) (by kernel_rfl) (by kernel_rfl) rfl (m := 400) ?_
  show VC.holds _ _ _ (a_sequ.start s_sequ 400 [ap p, ai most])
  rw [t_sequ]
  try simp only [asRows_sl, asInt_int, asBool_bool, asStr_str, listOf_rowsOn, List.drop_zero, Prg.eta, Sta.eta, rowsOn_length, getD_drop, Nat.reduceAdd, rd_int, rd_PMem_name, rd_PMem_secret, rd_PMem_n, rd_PLabel_name, rd_PLabel_at_, rd_Ins_kind, rd_Ins_op, rd_Ins_d, rd_Ins_aR, rd_Ins_aN, rd_Ins_bR, rd_Ins_bN, rd_Ins_name, rd_Ins_target, rd_Ent_pc, rd_Ent_val, rd_Ent_addr, rd_Ent_fro, rd_Ent_next, rd_Ent_done, rd_Ent_known, rd_Ent_fault, rd_Place_reg, rd_Place_n, rd_Place_secret, rd_Obs_kind, rd_Obs_at_, rd_Dir_kind, rd_Dir_n, Prg.of_cells, Sta.of_cells]
  try simp only [c_sequ] at hp
  obtain ⟨hw, hm, hi, hf⟩ := hp
  have e : c_sequ.ans (p, most) = rtri (sequS p most) := rfl
  rw [e]
  have hb := countS_le hw most
  unfold sequS
  refine ⟨PreOk.mk ⟨hw, hm⟩ rfl, all_holds fun y hy => ?_⟩
  replace hy : y = countS p most := by rw [hy]; simp [v_count]
  rw [← hy] at hb ⊢
  refine br_not (br_holds (fun h => ?_) (fun h => ?_))
  · rw [if_pos h]
    exact l_sequ0 p y.1 hw hm hi hf hb.1 hb.2 0 ⟨by omega, hb.1, by rw [Int.sub_zero]⟩
  · rw [if_neg (by simp [h])]
    exact ret_le (RR.le_refl _)
noncomputable def v_sequ : Prg × Int → Int × Bool × Bool := fun x => sequS x.1 x.2
noncomputable def sh_sequ : Int × Bool × Bool → RR := fun y => rtri y
theorem e_sequ (x : Prg × Int) : sh_sequ (v_sequ x) = c_sequ.ans x := rfl
end Go.Proofs.Ytclabjihjopclaa.Ax
end
