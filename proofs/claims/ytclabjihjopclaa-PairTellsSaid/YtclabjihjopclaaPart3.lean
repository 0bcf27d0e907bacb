/- Several texts in one, in their order. -/
import Derived.Test.YtclabjihjopclaaPart2
import Derived.Test.YtclabjihjopclaaAx24
import Derived.Test.YtclabjihjopclaaAxZ
import Derived.Test.YtclabjihjopclaaAxBk
section
/- Layer 19: pair.At. -/
namespace Go.Proofs.Ytclabjihjopclaa.Ax
open Go.RowKit
set_option linter.unusedVariables false
set_option linter.unusedSimpArgs false
theorem backI2_ok : BackOK Try.prog 141 none :=
  backward_ok (fn := Try.f141) (t := 22) (u := 3) (by kernel_rfl) rfl rfl rfl (by kernel_rfl) (by kernel_rfl) (by kernel_rfl) (by kernel_rfl) ⟨rfl, rfl, rfl⟩ ⟨rfl, rfl, rfl⟩ ⟨rfl, rfl, rfl⟩ ⟨rfl, rfl, rfl⟩ ⟨rfl, rfl, rfl⟩ ⟨rfl, rfl, rfl⟩ ⟨rfl, rfl, rfl⟩ ⟨rfl, rfl, rfl⟩ ⟨rfl, rfl, rfl⟩ ⟨rfl, rfl, rfl⟩ ⟨rfl, rfl, rfl⟩ ⟨rfl, rfl, rfl⟩ ⟨rfl, rfl, rfl⟩ ⟨rfl, rfl, rfl⟩ ⟨rfl, rfl, rfl⟩ ⟨rfl, rfl, rfl⟩ ⟨rfl, rfl, rfl⟩
def bkI (g : FuncId) : Option (Option Nat × List Kd) := if g = 141 then some (none, [.int .i64]) else none
theorem bkI_bk : BksOK Try.prog bkI := by
  intro g sh h
  unfold bkI at h
  split at h
  · rename_i hg; subst hg; cases h
    exact ⟨backI2_ok, ⟨Try.f141, by kernel_rfl, by decide +kernel, by kernel_rfl⟩⟩
  · cases h
noncomputable def Z_fill : Zo := mkZ Try.prog 0 [(95, ⟨400000, fun _ => none, fun _ => none⟩)] bkI
theorem Z_fill_ok : ZOK Try.prog 1 Z_fill := zok_mk fun p hp => by
  simp only [List.mem_cons, List.not_mem_nil, or_false] at hp
  subst hp
  exact zok_none _ _ _
def rdL0 : List A → List Int × Unit
  | [.c (.sl l)] => (listOf Int l, ())
  | _ => default
def c_bkI : FT (List Int × Unit) := ⟨129, fun x => [al x.1], rdL0, fun x => True, fun x => .c (.d (.fn 141 [.rptr [.sl (rowsOn x.1)]])), true, fun x => by simp [al, rdL0]⟩
noncomputable def a_bkI : FnA := (fnA Try.prog Try.f129 1 []).getD ⟨0, .skip, [], []⟩
def s_bkI : Sp := spT []
theorem s_bkI_sound : s_bkI.sound Try.prog := spT_sound fun e he => by cases he
set_option maxRecDepth 100000 in
theorem t_bkI (l : List Int) : a_bkI.start s_bkI 400 [al l] =
(VC.ret (some (RR.c (Rc.d (D.fn (141 : Nat) [D.rptr [D.sl (rowsOn l)]]))))) := by kernel_rfl
theorem c_bkI_good : c_bkI.fe.Good Try.prog := by
  refine FT.good c_bkI ⟨Try.f129, by kernel_rfl, by decide +kernel, by kernel_rfl⟩ (fun ⟨l, u⟩ => by first | rfl | simp [c_bkI, rrRef, rsplit, rnewI, rnewE, rstab, rplaces, ri, rb, rib, rnum, rby, rss, Sta.fresh]) fun ⟨l, u⟩ hp => ?_
  refine acalls_le s_bkI_sound (fn := Try.f129) (a := a_bkI) (nargs := 1) (tbl := []) (by kernel_rfl) (by kernel_rfl) rfl (m := 400) ?_
  show VC.holds _ _ _ (a_bkI.start s_bkI 400 [al l])
  rw [t_bkI]
  try simp only [asRows_sl, asInt_int, asBool_bool, asStr_str, listOf_rowsOn, List.drop_zero, Prg.eta, Sta.eta, rowsOn_length, getD_drop, Nat.reduceAdd, rd_int, rd_PMem_name, rd_PMem_secret, rd_PMem_n, rd_PLabel_name, rd_PLabel_at_, rd_Ins_kind, rd_Ins_op, rd_Ins_d, rd_Ins_aR, rd_Ins_aN, rd_Ins_bR, rd_Ins_bN, rd_Ins_name, rd_Ins_target, rd_Ent_pc, rd_Ent_val, rd_Ent_addr, rd_Ent_fro, rd_Ent_next, rd_Ent_done, rd_Ent_known, rd_Ent_fault, rd_Place_reg, rd_Place_n, rd_Place_secret, rd_Obs_kind, rd_Obs_at_, rd_Dir_kind, rd_Dir_n, Prg.of_cells, Sta.of_cells]
  try simp only [c_bkI] at hp
  repeat' first
    | refine br_not ?_
    | refine br_dec (fun _ => ?_) (fun _ => ?_)
    | refine br_beq (fun _ => ?_) (fun _ => ?_)
    | refine br_bne (fun _ => ?_) (fun _ => ?_)
    | refine br_holds (fun _ => ?_) (fun _ => ?_)
    | refine ⟨PreOk.mk ?_ rfl, ?_⟩
    | refine ⟨idx_ok _ _ _ rfl (by omega) (by omega), ?_⟩
    | refine ⟨okSh_ok _ _ _ (fun _ => rfl) (by omega) (by omega), ?_⟩
    | refine ⟨okSh_okD _ _ _ _ (fun _ => rfl) (by omega) (by omega), ?_⟩
    | refine ⟨aload_ok _ _ rfl (fun _ => rfl) (by omega) (by omega), ?_⟩
    | refine ⟨aload_okD _ _ _ rfl (fun _ => rfl) (by omega) (by omega), ?_⟩
    | refine ⟨astore_ok (by assumption) rfl (by omega) (by omega) (by decide), ?_⟩
    | refine ⟨app_ok (by assumption) rfl rfl (by simp only [List.length_cons, List.length_nil]; omega), ?_⟩
    | refine need_holds ?_ fun _ => ?_
    | refine all_holds fun y hy => ?_
    | refine ret_le ?_
  exact RR.le_refl _
noncomputable def v_aStart : Prg × List Int → Sta × Bool := fun x => startS x.1 x.2
noncomputable def sh_aStart : Sta × Bool → RR := fun y => rstab y
theorem e_aStart (x : Prg × List Int) : sh_aStart (v_aStart x) = c_aStart.ans x := rfl
def rpair (x : Sta × Sta × Bool) : RR := .tup [.inr x.1.fresh, .inr x.2.1.fresh, .inl (.d (.bool x.2.2))]
def c_pAt : FT (Prg × Int) := ⟨45, fun x => [ap x.1, ai x.2], rdPIq, fun x => okW x.1.w ∧ Mems x.1.mems, fun x => rpair (atP x.1 x.2), false, fun x => by simp [ap, ai, rdPIq]⟩
noncomputable def a_pAt : FnA := (fnAZ Try.prog Z_fill Try.f45 2 [(7, [1, 2, 4, 5, 7, 8, 9, 10, 11, 12]), (1000000018, [1, 2, 4, 5, 7, 8, 10, 11, 12, 13, 14, 1000013000000900001001, 1000014000000900002001]), (1000000019, [1, 2, 4, 5, 7, 8, 10, 11, 12, 13, 14, 1000013000000900001001, 1000014000000900002001]), (1000000020, [2, 4, 5, 8, 11, 12, 13, 14, 1000013000000900001001, 1000014000000900002001]), (1000000021, [2, 4, 5, 8, 11, 12, 13, 14, 1000013000000900001001, 1000014000000900002001]), (1000000022, [2, 4, 5, 13, 14, 1000013000000900001001, 1000014000000900002001])]).getD ⟨0, .skip, [], []⟩
noncomputable def v_split : Prg → List Int × List Int := fun x => (openS x, secS x)
noncomputable def sh_split : List Int × List Int → RR := fun y => rsplit y
theorem e_split (x : Prg) : sh_split (v_split x) = c_split.ans x := rfl
noncomputable def v_power : Prg × Int → Int := fun x => powS x.1 x.2.toNat
noncomputable def sh_power : Int → RR := fun y => ri y
theorem e_power (x : Prg × Int) : sh_power (v_power x) = c_power.ans x := rfl
noncomputable def v_twos : Int × Unit → Int := fun x => twoS x.1
noncomputable def sh_twos : Int → RR := fun y => ri y
theorem e_twos (x : Int × Unit) : sh_twos (v_twos x) = c_twos.ans x := rfl
noncomputable def s_pAt : Sp := spT [c_split.gfe v_split sh_split e_split, c_power.gfe v_power sh_power e_power, c_twos.gfe v_twos sh_twos e_twos, c_times.fe, c_wSize.fe, c_bkI.fe, c_aStart.gfe v_aStart sh_aStart e_aStart] bkI
theorem s_pAt_sound : s_pAt.sound Try.prog := spT_sound (hbk := bkI_bk) fun e he => by
  simp only [List.mem_cons, List.not_mem_nil, or_false] at he
  rcases he with rfl | rfl | rfl | rfl | rfl | rfl | rfl
  · exact FT.gfe_good c_split_good
  · exact FT.gfe_good c_power_good
  · exact FT.gfe_good c_twos_good
  · exact c_times_good
  · exact c_wSize_good
  · exact c_bkI_good
  · exact FT.gfe_good c_aStart_good
def zb : Blk := bc [.d (.int .i64 0), .d (.int .i64 0), .d (.int .i64 0), .d (.int .i64 0), .nil, .nil, .d (.int .i64 0)]
def F_pa0 (p : Prg) (i : Int) (op sc : List Int) (all each one rest : Int) : St := ⟨mkS 126 [(1, vi i), (2, vp 128), (4, vp 256), (5, vp 320), (7, vr (rowsOn op)), (8, vr (rowsOn sc)), (9, vi all), (10, vi each), (11, vi one), (12, vi rest)], [(128, bx p.cells), (256, zb), (320, zb)]⟩
def F_pa1 (p : Prg) (i : Int) (op sc : List Int) (each one rest : Int) (na nb : Nat) (X Y : List (List D)) : St := ⟨mkS 126 [(1, vi i), (2, vp 128), (4, vp 256), (5, vp 320), (7, vr (rowsOn op)), (8, vr (rowsOn sc)), (10, vi each), (11, vi one), (12, vi rest), (13, vo 900001 na), (14, vo 900002 nb)], [(128, bx p.cells), (256, zb), (320, zb), (900001, ba 1 X), (900002, ba 1 Y)]⟩
def F_pa2 (p : Prg) (sc : List Int) (one rest : Int) (na nb : Nat) (X Y : List (List D)) : St := ⟨mkS 126 [(2, vp 128), (4, vp 256), (5, vp 320), (8, vr (rowsOn sc)), (11, vi one), (12, vi rest), (13, vo 900001 na), (14, vo 900002 nb)], [(128, bx p.cells), (256, zb), (320, zb), (900001, ba 1 X), (900002, ba 1 Y)]⟩
def F_pa3 (p : Prg) (na nb : Nat) (X Y : List (List D)) : St := ⟨mkS 126 [(2, vp 128), (4, vp 256), (5, vp 320), (13, vo 900001 na), (14, vo 900002 nb)], [(128, bx p.cells), (256, zb), (320, zb), (900001, ba 1 X), (900002, ba 1 Y)]⟩
def F_c1 (p : Prg) (i : Int) (op sc : List Int) (each one rest : Int) (na nb : Nat) (n : Int) : St := ⟨mkS 126 [(1, vi i), (2, vp 128), (4, vp 256), (5, vp 320), (7, vr (rowsOn op)), (8, vr (rowsOn sc)), (10, vi each), (11, vi one), (12, vi rest), (13, vo 900001 na), (14, vo 900002 nb), (81, .agg [.d (.int .i64 p.w), .d (.int .i64 p.window), .d (.int .i64 p.fuel), .d (.int .i64 p.r0), .d (.int .i64 p.r1), .d (.int .i64 p.r2), .d (.int .i64 p.r3), .d (.sl (rowsOn p.mems)), .d (.sl (rowsOn p.labels)), .d (.sl (rowsOn p.ins))]), (82, vo 900001 na), (83, vr (rowsOn op)), (84, vi i), (85, vi each), (86, vi n)], []⟩
def F_c2 (p : Prg) (i : Int) (op sc : List Int) (each one rest : Int) (na nb : Nat) (n : Int) : St := ⟨mkS 126 [(1, vi i), (2, vp 128), (4, vp 256), (5, vp 320), (7, vr (rowsOn op)), (8, vr (rowsOn sc)), (10, vi each), (11, vi one), (12, vi rest), (13, vo 900001 na), (14, vo 900002 nb), (88, .agg [.d (.int .i64 p.w), .d (.int .i64 p.window), .d (.int .i64 p.fuel), .d (.int .i64 p.r0), .d (.int .i64 p.r1), .d (.int .i64 p.r2), .d (.int .i64 p.r3), .d (.sl (rowsOn p.mems)), .d (.sl (rowsOn p.labels)), .d (.sl (rowsOn p.ins))]), (89, vo 900002 nb), (90, vr (rowsOn op)), (91, vi i), (92, vi each), (93, vi n)], []⟩
def F_c3 (p : Prg) (sc : List Int) (one rest : Int) (na nb : Nat) : St := ⟨mkS 126 [(2, vp 128), (4, vp 256), (5, vp 320), (8, vr (rowsOn sc)), (11, vi one), (12, vi rest), (13, vo 900001 na), (14, vo 900002 nb), (95, .agg [.d (.int .i64 p.w), .d (.int .i64 p.window), .d (.int .i64 p.fuel), .d (.int .i64 p.r0), .d (.int .i64 p.r1), .d (.int .i64 p.r2), .d (.int .i64 p.r3), .d (.sl (rowsOn p.mems)), .d (.sl (rowsOn p.labels)), .d (.sl (rowsOn p.ins))]), (96, vo 900001 na), (97, vr (rowsOn sc)), (98, vi one)], []⟩
def F_c4 (p : Prg) (sc : List Int) (one rest : Int) (na nb : Nat) (m n : Int) : St := ⟨mkS 126 [(2, vp 128), (4, vp 256), (5, vp 320), (8, vr (rowsOn sc)), (11, vi one), (12, vi rest), (13, vo 900001 na), (14, vo 900002 nb), (100, .agg [.d (.int .i64 p.w), .d (.int .i64 p.window), .d (.int .i64 p.fuel), .d (.int .i64 p.r0), .d (.int .i64 p.r1), .d (.int .i64 p.r2), .d (.int .i64 p.r3), .d (.sl (rowsOn p.mems)), .d (.sl (rowsOn p.labels)), .d (.sl (rowsOn p.ins))]), (101, vo 900002 nb), (102, vr (rowsOn sc)), (103, vi one), (104, vi m), (105, vi rest), (106, vi n)], []⟩
def B_fa (p : Prg) (na : Nat) (X Y : List (List D)) (n : Int) : St := ⟨[], [(128, bx p.cells), (256, zb), (320, zb), (900001, ba 1 X), (900002, ba 1 Y), (400256, bx p.cells), (400320, bc [.own 900001 1 na]), (400448, bx [.int .i64 n])]⟩
def B_fb (p : Prg) (nb : Nat) (X Y : List (List D)) (n : Int) : St := ⟨[], [(128, bx p.cells), (256, zb), (320, zb), (900001, ba 1 X), (900002, ba 1 Y), (400256, bx p.cells), (400320, bc [.own 900002 1 nb]), (400448, bx [.int .i64 n])]⟩
def F_fa (p : Prg) (pl : List Int) (Z : List (List D)) (n0 : Int) (na : Nat) (X Y : List (List D)) (n : Int) : St := ⟨mkS 29 [(0, .agg [.d (.int .i64 p.w), .d (.int .i64 p.window), .d (.int .i64 p.fuel), .d (.int .i64 p.r0), .d (.int .i64 p.r1), .d (.int .i64 p.r2), .d (.int .i64 p.r3), .d (.sl (rowsOn p.mems)), .d (.sl (rowsOn p.labels)), .d (.sl (rowsOn p.ins))]), (1, vo 900001 na), (2, vr (rowsOn pl)), (3, vi n0), (4, vp 400256), (5, vp 400320), (7, vp 400448), (10, vr (rowsOn pl)), (11, .c (.d (.fn 141 [.rptr [.sl Z]])))], [(128, bx p.cells), (256, zb), (320, zb), (900001, ba 1 X), (900002, ba 1 Y), (400256, bx p.cells), (400320, bc [.own 900001 1 na]), (400448, bx [.int .i64 n])]⟩
def F_fb (p : Prg) (pl : List Int) (Z : List (List D)) (n0 : Int) (nb : Nat) (X Y : List (List D)) (n : Int) : St := ⟨mkS 29 [(0, .agg [.d (.int .i64 p.w), .d (.int .i64 p.window), .d (.int .i64 p.fuel), .d (.int .i64 p.r0), .d (.int .i64 p.r1), .d (.int .i64 p.r2), .d (.int .i64 p.r3), .d (.sl (rowsOn p.mems)), .d (.sl (rowsOn p.labels)), .d (.sl (rowsOn p.ins))]), (1, vo 900002 nb), (2, vr (rowsOn pl)), (3, vi n0), (4, vp 400256), (5, vp 400320), (7, vp 400448), (10, vr (rowsOn pl)), (11, .c (.d (.fn 141 [.rptr [.sl Z]])))], [(128, bx p.cells), (256, zb), (320, zb), (900001, ba 1 X), (900002, ba 1 Y), (400256, bx p.cells), (400320, bc [.own 900002 1 nb]), (400448, bx [.int .i64 n])]⟩
set_option maxRecDepth 100000 in
theorem t_pAt (p : Prg) (i : Int) : a_pAt.start s_pAt 400 [ap p, ai i] =
(VC.need (PreOk c_split p [A.agg (Prg.cells p)])
(VC.all ((openS { w := p.w, window := p.window, fuel := p.fuel, r0 := p.r0, r1 := p.r1, r2 := p.r2, r3 := p.r3, mems := listOf PMem (rowsOn p.mems), labels := listOf PLabel (rowsOn p.labels), ins := listOf Ins (rowsOn p.ins) }, secS { w := p.w, window := p.window, fuel := p.fuel, r0 := p.r0, r1 := p.r1, r2 := p.r2, r3 := p.r3, mems := listOf PMem (rowsOn p.mems), labels := listOf PLabel (rowsOn p.labels), ins := listOf Ins (rowsOn p.ins) })) fun (y2 : List Int × List Int) =>
(VC.need (PreOk c_power (Prg.of (Prg.cells p), (↑(List.length (rowsOn y2.snd)) : Int)) [A.agg (Prg.cells p), A.c (D.int IntKind.i64 (↑(List.length (rowsOn y2.snd)) : Int))])
(VC.all (v_power (Prg.of (Prg.cells p), (↑(List.length (rowsOn y2.snd)) : Int))) fun (y3 : Int) =>
(VC.need (PreOk c_twos (y3, ()) [A.c (D.int IntKind.i64 y3)])
(VC.all (v_twos (y3, ())) fun (y4 : Int) =>
(VC.br (decide (i < (0 : Int)))
 (VC.ret (some (RR.tup [Sum.inr [Rc.d (D.int IntKind.i64 (0 : Int)), Rc.d (D.int IntKind.i64 (0 : Int)), Rc.d (D.int IntKind.i64 (0 : Int)), Rc.d (D.int IntKind.i64 (0 : Int)), Rc.nil, Rc.nil, Rc.d (D.int IntKind.i64 (0 : Int))], Sum.inr [Rc.d (D.int IntKind.i64 (0 : Int)), Rc.d (D.int IntKind.i64 (0 : Int)), Rc.d (D.int IntKind.i64 (0 : Int)), Rc.d (D.int IntKind.i64 (0 : Int)), Rc.nil, Rc.nil, Rc.d (D.int IntKind.i64 (0 : Int))], Sum.inl (Rc.d (D.bool false))])))
 (VC.br (decide ((1000000 : Int) ≤ i))
  (VC.ret (some (RR.tup [Sum.inr [Rc.d (D.int IntKind.i64 (0 : Int)), Rc.d (D.int IntKind.i64 (0 : Int)), Rc.d (D.int IntKind.i64 (0 : Int)), Rc.d (D.int IntKind.i64 (0 : Int)), Rc.nil, Rc.nil, Rc.d (D.int IntKind.i64 (0 : Int))], Sum.inr [Rc.d (D.int IntKind.i64 (0 : Int)), Rc.d (D.int IntKind.i64 (0 : Int)), Rc.d (D.int IntKind.i64 (0 : Int)), Rc.d (D.int IntKind.i64 (0 : Int)), Rc.nil, Rc.nil, Rc.d (D.int IntKind.i64 (0 : Int))], Sum.inl (Rc.d (D.bool false))])))
  (VC.br (y4 == (0 : Int))
   (VC.ret (some (RR.tup [Sum.inr [Rc.d (D.int IntKind.i64 (0 : Int)), Rc.d (D.int IntKind.i64 (0 : Int)), Rc.d (D.int IntKind.i64 (0 : Int)), Rc.d (D.int IntKind.i64 (0 : Int)), Rc.nil, Rc.nil, Rc.d (D.int IntKind.i64 (0 : Int))], Sum.inr [Rc.d (D.int IntKind.i64 (0 : Int)), Rc.d (D.int IntKind.i64 (0 : Int)), Rc.d (D.int IntKind.i64 (0 : Int)), Rc.d (D.int IntKind.i64 (0 : Int)), Rc.nil, Rc.nil, Rc.d (D.int IntKind.i64 (0 : Int))], Sum.inl (Rc.d (D.bool false))])))
   (VC.need (y4 ≠ (0 : Int))
   (VC.need (PreOk c_power (Prg.of (Prg.cells p), (↑(List.length (rowsOn y2.fst)) : Int)) [A.agg (Prg.cells p), A.c (D.int IntKind.i64 (↑(List.length (rowsOn y2.fst)) : Int))])
   (VC.all (v_power (Prg.of (Prg.cells p), (↑(List.length (rowsOn y2.fst)) : Int))) fun (y5 : Int) =>
   (VC.br (decide (y5 ≤ IntKind.wrap IntKind.i64 (Int.tdiv i y4)))
    (VC.ret (some (RR.tup [Sum.inr [Rc.d (D.int IntKind.i64 (0 : Int)), Rc.d (D.int IntKind.i64 (0 : Int)), Rc.d (D.int IntKind.i64 (0 : Int)), Rc.d (D.int IntKind.i64 (0 : Int)), Rc.nil, Rc.nil, Rc.d (D.int IntKind.i64 (0 : Int))], Sum.inr [Rc.d (D.int IntKind.i64 (0 : Int)), Rc.d (D.int IntKind.i64 (0 : Int)), Rc.d (D.int IntKind.i64 (0 : Int)), Rc.d (D.int IntKind.i64 (0 : Int)), Rc.nil, Rc.nil, Rc.d (D.int IntKind.i64 (0 : Int))], Sum.inl (Rc.d (D.bool false))])))
    (VC.need (y4 ≠ (0 : Int))
    (FnA.at_ a_pAt 0 (F_pa0 p i y2.fst y2.snd y3 y4 (0 : Int) (Int.tmod i y4))))))))))))))))) := by kernel_rfl
set_option maxRecDepth 100000 in
theorem t_pa0 (p : Prg) (i : Int) (op sc : List Int) (all each one rest : Int) : a_pAt.round s_pAt 400 0 (F_pa0 p i op sc all each one rest) =
(VC.br (decide (IntKind.wrap IntKind.i64 (IntKind.wrap IntKind.i64 (all - (1 : Int)) - one) ≤ rest))
 (FnA.at_ a_pAt 0 (F_pa0 p i op sc all each (IntKind.wrap IntKind.i64 (one + (1 : Int))) (IntKind.wrap IntKind.i64 (rest - IntKind.wrap IntKind.i64 (IntKind.wrap IntKind.i64 (all - (1 : Int)) - one)))))
 (VC.need (IntKind.wrap IntKind.i64 ((↑(List.length (rowsOn op)) : Int) + (↑(List.length (rowsOn sc)) : Int)) = IntKind.wrap IntKind.i64 ((↑(List.length (rowsOn op)) : Int) + (↑(List.length (rowsOn sc)) : Int)) ∧ (0 : Int) ≤ IntKind.wrap IntKind.i64 ((↑(List.length (rowsOn op)) : Int) + (↑(List.length (rowsOn sc)) : Int)) ∧ (9 : Int) * IntKind.wrap IntKind.i64 ((↑(List.length (rowsOn op)) : Int) + (↑(List.length (rowsOn sc)) : Int)) ≤ (140737488355328 : Int))
 (VC.need (IntKind.wrap IntKind.i64 ((↑(List.length (rowsOn op)) : Int) + (↑(List.length (rowsOn sc)) : Int)) = IntKind.wrap IntKind.i64 ((↑(List.length (rowsOn op)) : Int) + (↑(List.length (rowsOn sc)) : Int)) ∧ (0 : Int) ≤ IntKind.wrap IntKind.i64 ((↑(List.length (rowsOn op)) : Int) + (↑(List.length (rowsOn sc)) : Int)) ∧ (9 : Int) * IntKind.wrap IntKind.i64 ((↑(List.length (rowsOn op)) : Int) + (↑(List.length (rowsOn sc)) : Int)) ≤ (140737488355328 : Int))
 (FnA.at_ a_pAt 1 (F_pa1 p i op sc each one rest (Int.toNat (IntKind.wrap IntKind.i64 ((↑(List.length (rowsOn op)) : Int) + (↑(List.length (rowsOn sc)) : Int)))) (Int.toNat (IntKind.wrap IntKind.i64 ((↑(List.length (rowsOn op)) : Int) + (↑(List.length (rowsOn sc)) : Int)))) (List.replicate (Int.toNat (IntKind.wrap IntKind.i64 ((↑(List.length (rowsOn op)) : Int) + (↑(List.length (rowsOn sc)) : Int)))) [D.int IntKind.i64 (0 : Int)]) (List.replicate (Int.toNat (IntKind.wrap IntKind.i64 ((↑(List.length (rowsOn op)) : Int) + (↑(List.length (rowsOn sc)) : Int)))) [D.int IntKind.i64 (0 : Int)])))))) := by kernel_rfl
set_option maxRecDepth 100000 in
theorem t_pa1 (p : Prg) (i : Int) (op sc : List Int) (each one rest : Int) (na nb : Nat) (X Y : List (List D)) : a_pAt.round s_pAt 400 1 (F_pa1 p i op sc each one rest na nb X Y) =
(VC.need (each ≠ (0 : Int))
(VC.need (PreOk c_bkI (op, ()) [A.c (D.sl (rowsOn op))])
(VC.need (okBack none (rowsOn (listOf Int (rowsOn op))) = true)
(FnA.bki a_pAt 0 (St.slots (F_c1 p i op sc each one rest na nb (IntKind.wrap IntKind.i64 (Int.tdiv i each)))) ((none, [Kd.int IntKind.i64])) (St.blk (B_fa p na X Y (IntKind.wrap IntKind.i64 (Int.tdiv i each)))) (rowsOn (listOf Int (rowsOn op))) (List.length (rowsOn (listOf Int (rowsOn op)))) (F_fa p op (rowsOn (listOf Int (rowsOn op))) (IntKind.wrap IntKind.i64 (Int.tdiv i each)) na X Y (IntKind.wrap IntKind.i64 (Int.tdiv i each))))))) := by kernel_rfl
set_option maxRecDepth 100000 in
theorem t_pa2 (p : Prg) (i : Int) (op sc : List Int) (each one rest : Int) (na nb : Nat) (X Y : List (List D)) : a_pAt.round s_pAt 400 2 (F_pa1 p i op sc each one rest na nb X Y) =
(VC.need (each ≠ (0 : Int))
(VC.need (PreOk c_bkI (op, ()) [A.c (D.sl (rowsOn op))])
(VC.need (okBack none (rowsOn (listOf Int (rowsOn op))) = true)
(FnA.bki a_pAt 1 (St.slots (F_c2 p i op sc each one rest na nb (IntKind.wrap IntKind.i64 (Int.tdiv i each)))) ((none, [Kd.int IntKind.i64])) (St.blk (B_fb p nb X Y (IntKind.wrap IntKind.i64 (Int.tdiv i each)))) (rowsOn (listOf Int (rowsOn op))) (List.length (rowsOn (listOf Int (rowsOn op)))) (F_fb p op (rowsOn (listOf Int (rowsOn op))) (IntKind.wrap IntKind.i64 (Int.tdiv i each)) nb X Y (IntKind.wrap IntKind.i64 (Int.tdiv i each))))))) := by kernel_rfl
set_option maxRecDepth 100000 in
theorem t_pa3 (p : Prg) (sc : List Int) (one rest : Int) (na nb : Nat) (X Y : List (List D)) : a_pAt.round s_pAt 400 3 (F_pa2 p sc one rest na nb X Y) =
(VC.need (PreOk c_bkI (sc, ()) [A.c (D.sl (rowsOn sc))])
(VC.need (okBack none (rowsOn (listOf Int (rowsOn sc))) = true)
(FnA.bki a_pAt 2 (St.slots (F_c3 p sc one rest na nb)) ((none, [Kd.int IntKind.i64])) (St.blk (B_fa p na X Y one)) (rowsOn (listOf Int (rowsOn sc))) (List.length (rowsOn (listOf Int (rowsOn sc)))) (F_fa p sc (rowsOn (listOf Int (rowsOn sc))) one na X Y one)))) := by kernel_rfl
set_option maxRecDepth 100000 in
theorem t_pa4 (p : Prg) (sc : List Int) (one rest : Int) (na nb : Nat) (X Y : List (List D)) : a_pAt.round s_pAt 400 4 (F_pa2 p sc one rest na nb X Y) =
(VC.need (PreOk c_bkI (sc, ()) [A.c (D.sl (rowsOn sc))])
(VC.need (okBack none (rowsOn (listOf Int (rowsOn sc))) = true)
(FnA.bki a_pAt 3 (St.slots (F_c4 p sc one rest na nb (IntKind.wrap IntKind.i64 (one + (1 : Int))) (IntKind.wrap IntKind.i64 (IntKind.wrap IntKind.i64 (one + (1 : Int)) + rest)))) ((none, [Kd.int IntKind.i64])) (St.blk (B_fb p nb X Y (IntKind.wrap IntKind.i64 (IntKind.wrap IntKind.i64 (one + (1 : Int)) + rest)))) (rowsOn (listOf Int (rowsOn sc))) (List.length (rowsOn (listOf Int (rowsOn sc)))) (F_fb p sc (rowsOn (listOf Int (rowsOn sc))) (IntKind.wrap IntKind.i64 (IntKind.wrap IntKind.i64 (one + (1 : Int)) + rest)) nb X Y (IntKind.wrap IntKind.i64 (IntKind.wrap IntKind.i64 (one + (1 : Int)) + rest)))))) := by kernel_rfl
set_option maxRecDepth 100000 in
theorem t_pa5 (p : Prg) (na nb : Nat) (X Y : List (List D)) : a_pAt.round s_pAt 400 5 (F_pa3 p na nb X Y) =
(VC.need (PreOk c_aStart (Prg.of (Prg.cells p), listOf Int X) [A.agg (Prg.cells p), A.c (D.sl X)])
(VC.all (v_aStart (Prg.of (Prg.cells p), listOf Int X)) fun (y5 : Sta × Bool) =>
(VC.need (PreOk c_aStart (Prg.of (Prg.cells p), listOf Int Y) [A.agg (Prg.cells p), A.c (D.sl Y)])
(VC.all (v_aStart (Prg.of (Prg.cells p), listOf Int Y)) fun (y6 : Sta × Bool) =>
(VC.br (y5.snd)
 (VC.ret (some (RR.tup [Sum.inr [Rc.d (D.int IntKind.i64 y5.fst.r0), Rc.d (D.int IntKind.i64 y5.fst.r1), Rc.d (D.int IntKind.i64 y5.fst.r2), Rc.d (D.int IntKind.i64 y5.fst.r3), Rc.new (1 : Nat) (rowsOn y5.fst.mem), Rc.new (1 : Nat) (rowsOn y5.fst.stack), Rc.d (D.int IntKind.i64 y5.fst.pc)], Sum.inr [Rc.d (D.int IntKind.i64 y6.fst.r0), Rc.d (D.int IntKind.i64 y6.fst.r1), Rc.d (D.int IntKind.i64 y6.fst.r2), Rc.d (D.int IntKind.i64 y6.fst.r3), Rc.new (1 : Nat) (rowsOn y6.fst.mem), Rc.new (1 : Nat) (rowsOn y6.fst.stack), Rc.d (D.int IntKind.i64 y6.fst.pc)], Sum.inl (Rc.d (D.bool y6.snd))])))
 (VC.ret (some (RR.tup [Sum.inr [Rc.d (D.int IntKind.i64 y5.fst.r0), Rc.d (D.int IntKind.i64 y5.fst.r1), Rc.d (D.int IntKind.i64 y5.fst.r2), Rc.d (D.int IntKind.i64 y5.fst.r3), Rc.new (1 : Nat) (rowsOn y5.fst.mem), Rc.new (1 : Nat) (rowsOn y5.fst.stack), Rc.d (D.int IntKind.i64 y5.fst.pc)], Sum.inr [Rc.d (D.int IntKind.i64 y6.fst.r0), Rc.d (D.int IntKind.i64 y6.fst.r1), Rc.d (D.int IntKind.i64 y6.fst.r2), Rc.d (D.int IntKind.i64 y6.fst.r3), Rc.new (1 : Nat) (rowsOn y6.fst.mem), Rc.new (1 : Nat) (rowsOn y6.fst.stack), Rc.d (D.int IntKind.i64 y6.fst.pc)], Sum.inl (Rc.d (D.bool false))])))))))) := by kernel_rfl
set_option maxRecDepth 100000 in
theorem t_pf10 (p : Prg) (i : Int) (op sc : List Int) (each one rest : Int) (na nb : Nat) (X0 Y0 Z : List (List D)) (m0 n0 : Int) (X Y : List (List D)) (n : Int) : a_pAt.bkiround s_pAt 400 0 (St.slots (F_c1 p i op sc each one rest na nb m0)) (none, [Kd.int .i64]) (St.blk (B_fa p na X0 Y0 m0)) (rowsOn op) 0 (F_fa p op Z n0 na X Y n) =
(FnA.at_ a_pAt 2 (F_pa1 p i op sc each one rest na nb X Y)) := by kernel_rfl
set_option maxRecDepth 100000 in
theorem t_pf1S (p : Prg) (i : Int) (op sc : List Int) (each one rest : Int) (na nb : Nat) (X0 Y0 Z : List (List D)) (m0 n0 : Int) (X Y : List (List D)) (n : Int) (k : Nat) : a_pAt.bkiround s_pAt 400 0 (St.slots (F_c1 p i op sc each one rest na nb m0)) (none, [Kd.int .i64]) (St.blk (B_fa p na X0 Y0 m0)) (rowsOn op) (Nat.succ k) (F_fa p op Z n0 na X Y n) =
(VC.need (k < List.length (rowsOn op) ∧ okSh [Kd.int IntKind.i64] (rowAt (rowsOn op) k))
(VC.need (PreOk c_wSize p.w [A.c (D.int IntKind.i64 p.w)])
(VC.need (max (sizeS p.w) (1 : Int) ≠ (0 : Int))
(VC.need ((0 : Int) ≤ asInt (List.getD (rowAt (rowsOn op) k) (0 : Nat) D.nilp) ∧ asInt (List.getD (rowAt (rowsOn op) k) (0 : Nat) D.nilp) < (↑na : Int))
(VC.need (Int.toNat (asInt (List.getD (rowAt (rowsOn op) k) (0 : Nat) D.nilp)) < List.length X ∧ List.length (rowAt X (Int.toNat (asInt (List.getD (rowAt (rowsOn op) k) (0 : Nat) D.nilp)))) = (1 : Nat) ∧ (1 : Nat) ≤ (1 : Nat))
(VC.need (PreOk c_wSize p.w [A.c (D.int IntKind.i64 p.w)])
(VC.need (max (sizeS p.w) (1 : Int) ≠ (0 : Int))
(FnA.bki a_pAt 0 (St.slots (F_c1 p i op sc each one rest na nb m0)) ((none, [Kd.int IntKind.i64])) (St.blk (B_fa p na X0 Y0 m0)) (rowsOn op) (k) (F_fa p op Z n0 na (List.set X (Int.toNat (asInt (List.getD (rowAt (rowsOn op) k) (0 : Nat) D.nilp))) (splice (rowAt X (Int.toNat (asInt (List.getD (rowAt (rowsOn op) k) (0 : Nat) D.nilp)))) (0 : Nat) [D.int IntKind.i64 (Int.tmod n (max (sizeS p.w) (1 : Int)))])) Y (IntKind.wrap IntKind.i64 (Int.tdiv n (max (sizeS p.w) (1 : Int))))))))))))) := by kernel_rfl
set_option maxRecDepth 100000 in
theorem t_pf20 (p : Prg) (i : Int) (op sc : List Int) (each one rest : Int) (na nb : Nat) (X0 Y0 Z : List (List D)) (m0 n0 : Int) (X Y : List (List D)) (n : Int) : a_pAt.bkiround s_pAt 400 1 (St.slots (F_c2 p i op sc each one rest na nb m0)) (none, [Kd.int .i64]) (St.blk (B_fb p nb X0 Y0 m0)) (rowsOn op) 0 (F_fb p op Z n0 nb X Y n) =
(FnA.at_ a_pAt 3 (F_pa2 p sc one rest na nb X Y)) := by kernel_rfl
set_option maxRecDepth 100000 in
theorem t_pf2S (p : Prg) (i : Int) (op sc : List Int) (each one rest : Int) (na nb : Nat) (X0 Y0 Z : List (List D)) (m0 n0 : Int) (X Y : List (List D)) (n : Int) (k : Nat) : a_pAt.bkiround s_pAt 400 1 (St.slots (F_c2 p i op sc each one rest na nb m0)) (none, [Kd.int .i64]) (St.blk (B_fb p nb X0 Y0 m0)) (rowsOn op) (Nat.succ k) (F_fb p op Z n0 nb X Y n) =
(VC.need (k < List.length (rowsOn op) ∧ okSh [Kd.int IntKind.i64] (rowAt (rowsOn op) k))
(VC.need (PreOk c_wSize p.w [A.c (D.int IntKind.i64 p.w)])
(VC.need (max (sizeS p.w) (1 : Int) ≠ (0 : Int))
(VC.need ((0 : Int) ≤ asInt (List.getD (rowAt (rowsOn op) k) (0 : Nat) D.nilp) ∧ asInt (List.getD (rowAt (rowsOn op) k) (0 : Nat) D.nilp) < (↑nb : Int))
(VC.need (Int.toNat (asInt (List.getD (rowAt (rowsOn op) k) (0 : Nat) D.nilp)) < List.length Y ∧ List.length (rowAt Y (Int.toNat (asInt (List.getD (rowAt (rowsOn op) k) (0 : Nat) D.nilp)))) = (1 : Nat) ∧ (1 : Nat) ≤ (1 : Nat))
(VC.need (PreOk c_wSize p.w [A.c (D.int IntKind.i64 p.w)])
(VC.need (max (sizeS p.w) (1 : Int) ≠ (0 : Int))
(FnA.bki a_pAt 1 (St.slots (F_c2 p i op sc each one rest na nb m0)) ((none, [Kd.int IntKind.i64])) (St.blk (B_fb p nb X0 Y0 m0)) (rowsOn op) (k) (F_fb p op Z n0 nb X (List.set Y (Int.toNat (asInt (List.getD (rowAt (rowsOn op) k) (0 : Nat) D.nilp))) (splice (rowAt Y (Int.toNat (asInt (List.getD (rowAt (rowsOn op) k) (0 : Nat) D.nilp)))) (0 : Nat) [D.int IntKind.i64 (Int.tmod n (max (sizeS p.w) (1 : Int)))])) (IntKind.wrap IntKind.i64 (Int.tdiv n (max (sizeS p.w) (1 : Int))))))))))))) := by kernel_rfl
set_option maxRecDepth 100000 in
theorem t_pf30 (p : Prg) (sc : List Int) (one rest : Int) (na nb : Nat) (X0 Y0 Z : List (List D)) (m0 n0 : Int) (X Y : List (List D)) (n : Int) : a_pAt.bkiround s_pAt 400 2 (St.slots (F_c3 p sc one rest na nb)) (none, [Kd.int .i64]) (St.blk (B_fa p na X0 Y0 m0)) (rowsOn sc) 0 (F_fa p sc Z n0 na X Y n) =
(FnA.at_ a_pAt 4 (F_pa2 p sc one rest na nb X Y)) := by kernel_rfl
set_option maxRecDepth 100000 in
theorem t_pf3S (p : Prg) (sc : List Int) (one rest : Int) (na nb : Nat) (X0 Y0 Z : List (List D)) (m0 n0 : Int) (X Y : List (List D)) (n : Int) (k : Nat) : a_pAt.bkiround s_pAt 400 2 (St.slots (F_c3 p sc one rest na nb)) (none, [Kd.int .i64]) (St.blk (B_fa p na X0 Y0 m0)) (rowsOn sc) (Nat.succ k) (F_fa p sc Z n0 na X Y n) =
(VC.need (k < List.length (rowsOn sc) ∧ okSh [Kd.int IntKind.i64] (rowAt (rowsOn sc) k))
(VC.need (PreOk c_wSize p.w [A.c (D.int IntKind.i64 p.w)])
(VC.need (max (sizeS p.w) (1 : Int) ≠ (0 : Int))
(VC.need ((0 : Int) ≤ asInt (List.getD (rowAt (rowsOn sc) k) (0 : Nat) D.nilp) ∧ asInt (List.getD (rowAt (rowsOn sc) k) (0 : Nat) D.nilp) < (↑na : Int))
(VC.need (Int.toNat (asInt (List.getD (rowAt (rowsOn sc) k) (0 : Nat) D.nilp)) < List.length X ∧ List.length (rowAt X (Int.toNat (asInt (List.getD (rowAt (rowsOn sc) k) (0 : Nat) D.nilp)))) = (1 : Nat) ∧ (1 : Nat) ≤ (1 : Nat))
(VC.need (PreOk c_wSize p.w [A.c (D.int IntKind.i64 p.w)])
(VC.need (max (sizeS p.w) (1 : Int) ≠ (0 : Int))
(FnA.bki a_pAt 2 (St.slots (F_c3 p sc one rest na nb)) ((none, [Kd.int IntKind.i64])) (St.blk (B_fa p na X0 Y0 m0)) (rowsOn sc) (k) (F_fa p sc Z n0 na (List.set X (Int.toNat (asInt (List.getD (rowAt (rowsOn sc) k) (0 : Nat) D.nilp))) (splice (rowAt X (Int.toNat (asInt (List.getD (rowAt (rowsOn sc) k) (0 : Nat) D.nilp)))) (0 : Nat) [D.int IntKind.i64 (Int.tmod n (max (sizeS p.w) (1 : Int)))])) Y (IntKind.wrap IntKind.i64 (Int.tdiv n (max (sizeS p.w) (1 : Int))))))))))))) := by kernel_rfl
set_option maxRecDepth 100000 in
theorem t_pf40 (p : Prg) (sc : List Int) (one rest : Int) (na nb : Nat) (m1 : Int) (X0 Y0 Z : List (List D)) (m0 n0 : Int) (X Y : List (List D)) (n : Int) : a_pAt.bkiround s_pAt 400 3 (St.slots (F_c4 p sc one rest na nb m1 m0)) (none, [Kd.int .i64]) (St.blk (B_fb p nb X0 Y0 m0)) (rowsOn sc) 0 (F_fb p sc Z n0 nb X Y n) =
(FnA.at_ a_pAt 5 (F_pa3 p na nb X Y)) := by kernel_rfl
set_option maxRecDepth 100000 in
theorem t_pf4S (p : Prg) (sc : List Int) (one rest : Int) (na nb : Nat) (m1 : Int) (X0 Y0 Z : List (List D)) (m0 n0 : Int) (X Y : List (List D)) (n : Int) (k : Nat) : a_pAt.bkiround s_pAt 400 3 (St.slots (F_c4 p sc one rest na nb m1 m0)) (none, [Kd.int .i64]) (St.blk (B_fb p nb X0 Y0 m0)) (rowsOn sc) (Nat.succ k) (F_fb p sc Z n0 nb X Y n) =
(VC.need (k < List.length (rowsOn sc) ∧ okSh [Kd.int IntKind.i64] (rowAt (rowsOn sc) k))
(VC.need (PreOk c_wSize p.w [A.c (D.int IntKind.i64 p.w)])
(VC.need (max (sizeS p.w) (1 : Int) ≠ (0 : Int))
(VC.need ((0 : Int) ≤ asInt (List.getD (rowAt (rowsOn sc) k) (0 : Nat) D.nilp) ∧ asInt (List.getD (rowAt (rowsOn sc) k) (0 : Nat) D.nilp) < (↑nb : Int))
(VC.need (Int.toNat (asInt (List.getD (rowAt (rowsOn sc) k) (0 : Nat) D.nilp)) < List.length Y ∧ List.length (rowAt Y (Int.toNat (asInt (List.getD (rowAt (rowsOn sc) k) (0 : Nat) D.nilp)))) = (1 : Nat) ∧ (1 : Nat) ≤ (1 : Nat))
(VC.need (PreOk c_wSize p.w [A.c (D.int IntKind.i64 p.w)])
(VC.need (max (sizeS p.w) (1 : Int) ≠ (0 : Int))
(FnA.bki a_pAt 3 (St.slots (F_c4 p sc one rest na nb m1 m0)) ((none, [Kd.int IntKind.i64])) (St.blk (B_fb p nb X0 Y0 m0)) (rowsOn sc) (k) (F_fb p sc Z n0 nb X (List.set Y (Int.toNat (asInt (List.getD (rowAt (rowsOn sc) k) (0 : Nat) D.nilp))) (splice (rowAt Y (Int.toNat (asInt (List.getD (rowAt (rowsOn sc) k) (0 : Nat) D.nilp)))) (0 : Nat) [D.int IntKind.i64 (Int.tmod n (max (sizeS p.w) (1 : Int)))])) (IntKind.wrap IntKind.i64 (Int.tdiv n (max (sizeS p.w) (1 : Int))))))))))))) := by kernel_rfl
/-! filling -/
theorem l_f1 (p : Prg) (i : Int) (op sc : List Int) (each one rest : Int) (na nb : Nat) (X0 Y0 Z : List (List D)) (m0 n0 : Int) (Y : List (List D)) (hw : okW p.w) (hb : ∀ k : Nat, k < op.length → 0 ≤ rd op (k : Int) ∧ rd op (k : Int) < na) (R : RR → Prop) : ∀ (k : Nat) (l : List Int) (n : Int), k ≤ op.length → l.length = na → 0 ≤ n → n ≤ 1000000000 →
    (FnA.at_ a_pAt 2 (F_pa1 p i op sc each one rest na nb (rowsOn (fillK (sizeS p.w) op k l n)) Y)).holds s_pAt.cx a_pAt.rs R →
    (FnA.bki a_pAt 0 (St.slots (F_c1 p i op sc each one rest na nb m0)) (none, [Kd.int .i64]) (St.blk (B_fa p na X0 Y0 m0)) (rowsOn op) k (F_fa p op Z n0 na (rowsOn l) Y n)).holds s_pAt.cx a_pAt.rs R := by
  intro k
  induction k with
  | zero =>
    intro l n hk hl h0 h1 h
    refine bki_of_round s_pAt_sound (m := 400) ?_
    rw [t_pf10]
    exact h
  | succ k ih =>
    intro l n hk hl h0 h1 h
    refine bki_of_round s_pAt_sound (m := 400) ?_
    rw [show k + 1 = Nat.succ k from rfl, t_pf1S]
    have hs := size_pos hw
    have e1 : asInt (List.getD (rowAt (rowsOn op) k) 0 .nilp) = rd op (k : Int) := rd_int op (k : Int)
    have hbk := hb k (by omega)
    have em : max (sizeS p.w) 1 = sizeS p.w := by omega
    have t1 : Int.tmod n (sizeS p.w) = n % sizeS p.w := Int.tmod_eq_emod_of_nonneg h0
    have t2 : Int.tdiv n (sizeS p.w) = n / sizeS p.w := Int.tdiv_eq_ediv_of_nonneg h0
    have d1 : 0 ≤ n / sizeS p.w := Int.ediv_nonneg h0 (by omega)
    have d2 : n / sizeS p.w ≤ n := Int.ediv_le_self _ h0
    have hset : List.set (rowsOn l) (rd op (k : Int)).toNat (splice (rowAt (rowsOn l) (rd op (k : Int)).toNat) 0 [D.int .i64 (n % sizeS p.w)]) = rowsOn (l.set (rd op (k : Int)).toNat (n % sizeS p.w)) := (OnL.set (α := Int) (n := l.length) ⟨rfl, rfl⟩ hbk.1 (by omega) (n % sizeS p.w)).1
    rw [e1, em, t1, t2, wrap_small (n / sizeS p.w) (by omega) (by omega), hset]
    have hr : (rowAt (rowsOn l) (rd op (k : Int)).toNat).length = 1 := by rw [rowAt_on l _ hbk.1 (by omega)]; rfl
    exact ⟨⟨by rw [rowsOn_length]; omega, okSh_ok _ op (k : Int) (fun _ => rfl) (by omega) (by omega)⟩, PreOk.mk trivial rfl, by omega, ⟨hbk.1, hbk.2⟩, ⟨by rw [rowsOn_length]; omega, hr, Nat.le_refl _⟩, PreOk.mk trivial rfl, by omega, ih _ _ (by omega) (by simpa using hl) d1 (by omega) h⟩
theorem l_f2 (p : Prg) (i : Int) (op sc : List Int) (each one rest : Int) (na nb : Nat) (X0 Y0 Z : List (List D)) (m0 n0 : Int) (X : List (List D)) (hw : okW p.w) (hb : ∀ k : Nat, k < op.length → 0 ≤ rd op (k : Int) ∧ rd op (k : Int) < nb) (R : RR → Prop) : ∀ (k : Nat) (l : List Int) (n : Int), k ≤ op.length → l.length = nb → 0 ≤ n → n ≤ 1000000000 →
    (FnA.at_ a_pAt 3 (F_pa2 p sc one rest na nb X (rowsOn (fillK (sizeS p.w) op k l n)))).holds s_pAt.cx a_pAt.rs R →
    (FnA.bki a_pAt 1 (St.slots (F_c2 p i op sc each one rest na nb m0)) (none, [Kd.int .i64]) (St.blk (B_fb p nb X0 Y0 m0)) (rowsOn op) k (F_fb p op Z n0 nb X (rowsOn l) n)).holds s_pAt.cx a_pAt.rs R := by
  intro k
  induction k with
  | zero =>
    intro l n hk hl h0 h1 h
    refine bki_of_round s_pAt_sound (m := 400) ?_
    rw [t_pf20]
    exact h
  | succ k ih =>
    intro l n hk hl h0 h1 h
    refine bki_of_round s_pAt_sound (m := 400) ?_
    rw [show k + 1 = Nat.succ k from rfl, t_pf2S]
    have hs := size_pos hw
    have e1 : asInt (List.getD (rowAt (rowsOn op) k) 0 .nilp) = rd op (k : Int) := rd_int op (k : Int)
    have hbk := hb k (by omega)
    have em : max (sizeS p.w) 1 = sizeS p.w := by omega
    have t1 : Int.tmod n (sizeS p.w) = n % sizeS p.w := Int.tmod_eq_emod_of_nonneg h0
    have t2 : Int.tdiv n (sizeS p.w) = n / sizeS p.w := Int.tdiv_eq_ediv_of_nonneg h0
    have d1 : 0 ≤ n / sizeS p.w := Int.ediv_nonneg h0 (by omega)
    have d2 : n / sizeS p.w ≤ n := Int.ediv_le_self _ h0
    have hset : List.set (rowsOn l) (rd op (k : Int)).toNat (splice (rowAt (rowsOn l) (rd op (k : Int)).toNat) 0 [D.int .i64 (n % sizeS p.w)]) = rowsOn (l.set (rd op (k : Int)).toNat (n % sizeS p.w)) := (OnL.set (α := Int) (n := l.length) ⟨rfl, rfl⟩ hbk.1 (by omega) (n % sizeS p.w)).1
    rw [e1, em, t1, t2, wrap_small (n / sizeS p.w) (by omega) (by omega), hset]
    have hr : (rowAt (rowsOn l) (rd op (k : Int)).toNat).length = 1 := by rw [rowAt_on l _ hbk.1 (by omega)]; rfl
    exact ⟨⟨by rw [rowsOn_length]; omega, okSh_ok _ op (k : Int) (fun _ => rfl) (by omega) (by omega)⟩, PreOk.mk trivial rfl, by omega, ⟨hbk.1, hbk.2⟩, ⟨by rw [rowsOn_length]; omega, hr, Nat.le_refl _⟩, PreOk.mk trivial rfl, by omega, ih _ _ (by omega) (by simpa using hl) d1 (by omega) h⟩
theorem l_f3 (p : Prg) (sc : List Int) (one rest : Int) (na nb : Nat) (X0 Y0 Z : List (List D)) (m0 n0 : Int) (Y : List (List D)) (hw : okW p.w) (hb : ∀ k : Nat, k < sc.length → 0 ≤ rd sc (k : Int) ∧ rd sc (k : Int) < na) (R : RR → Prop) : ∀ (k : Nat) (l : List Int) (n : Int), k ≤ sc.length → l.length = na → 0 ≤ n → n ≤ 1000000000 →
    (FnA.at_ a_pAt 4 (F_pa2 p sc one rest na nb (rowsOn (fillK (sizeS p.w) sc k l n)) Y)).holds s_pAt.cx a_pAt.rs R →
    (FnA.bki a_pAt 2 (St.slots (F_c3 p sc one rest na nb)) (none, [Kd.int .i64]) (St.blk (B_fa p na X0 Y0 m0)) (rowsOn sc) k (F_fa p sc Z n0 na (rowsOn l) Y n)).holds s_pAt.cx a_pAt.rs R := by
  intro k
  induction k with
  | zero =>
    intro l n hk hl h0 h1 h
    refine bki_of_round s_pAt_sound (m := 400) ?_
    rw [t_pf30]
    exact h
  | succ k ih =>
    intro l n hk hl h0 h1 h
    refine bki_of_round s_pAt_sound (m := 400) ?_
    rw [show k + 1 = Nat.succ k from rfl, t_pf3S]
    have hs := size_pos hw
    have e1 : asInt (List.getD (rowAt (rowsOn sc) k) 0 .nilp) = rd sc (k : Int) := rd_int sc (k : Int)
    have hbk := hb k (by omega)
    have em : max (sizeS p.w) 1 = sizeS p.w := by omega
    have t1 : Int.tmod n (sizeS p.w) = n % sizeS p.w := Int.tmod_eq_emod_of_nonneg h0
    have t2 : Int.tdiv n (sizeS p.w) = n / sizeS p.w := Int.tdiv_eq_ediv_of_nonneg h0
    have d1 : 0 ≤ n / sizeS p.w := Int.ediv_nonneg h0 (by omega)
    have d2 : n / sizeS p.w ≤ n := Int.ediv_le_self _ h0
    have hset : List.set (rowsOn l) (rd sc (k : Int)).toNat (splice (rowAt (rowsOn l) (rd sc (k : Int)).toNat) 0 [D.int .i64 (n % sizeS p.w)]) = rowsOn (l.set (rd sc (k : Int)).toNat (n % sizeS p.w)) := (OnL.set (α := Int) (n := l.length) ⟨rfl, rfl⟩ hbk.1 (by omega) (n % sizeS p.w)).1
    rw [e1, em, t1, t2, wrap_small (n / sizeS p.w) (by omega) (by omega), hset]
    have hr : (rowAt (rowsOn l) (rd sc (k : Int)).toNat).length = 1 := by rw [rowAt_on l _ hbk.1 (by omega)]; rfl
    exact ⟨⟨by rw [rowsOn_length]; omega, okSh_ok _ sc (k : Int) (fun _ => rfl) (by omega) (by omega)⟩, PreOk.mk trivial rfl, by omega, ⟨hbk.1, hbk.2⟩, ⟨by rw [rowsOn_length]; omega, hr, Nat.le_refl _⟩, PreOk.mk trivial rfl, by omega, ih _ _ (by omega) (by simpa using hl) d1 (by omega) h⟩
theorem l_f4 (p : Prg) (sc : List Int) (one rest : Int) (na nb : Nat) (m1 : Int) (X0 Y0 Z : List (List D)) (m0 n0 : Int) (X : List (List D)) (hw : okW p.w) (hb : ∀ k : Nat, k < sc.length → 0 ≤ rd sc (k : Int) ∧ rd sc (k : Int) < nb) (R : RR → Prop) : ∀ (k : Nat) (l : List Int) (n : Int), k ≤ sc.length → l.length = nb → 0 ≤ n → n ≤ 1000000000 →
    (FnA.at_ a_pAt 5 (F_pa3 p na nb X (rowsOn (fillK (sizeS p.w) sc k l n)))).holds s_pAt.cx a_pAt.rs R →
    (FnA.bki a_pAt 3 (St.slots (F_c4 p sc one rest na nb m1 m0)) (none, [Kd.int .i64]) (St.blk (B_fb p nb X0 Y0 m0)) (rowsOn sc) k (F_fb p sc Z n0 nb X (rowsOn l) n)).holds s_pAt.cx a_pAt.rs R := by
  intro k
  induction k with
  | zero =>
    intro l n hk hl h0 h1 h
    refine bki_of_round s_pAt_sound (m := 400) ?_
    rw [t_pf40]
    exact h
  | succ k ih =>
    intro l n hk hl h0 h1 h
    refine bki_of_round s_pAt_sound (m := 400) ?_
    rw [show k + 1 = Nat.succ k from rfl, t_pf4S]
    have hs := size_pos hw
    have e1 : asInt (List.getD (rowAt (rowsOn sc) k) 0 .nilp) = rd sc (k : Int) := rd_int sc (k : Int)
    have hbk := hb k (by omega)
    have em : max (sizeS p.w) 1 = sizeS p.w := by omega
    have t1 : Int.tmod n (sizeS p.w) = n % sizeS p.w := Int.tmod_eq_emod_of_nonneg h0
    have t2 : Int.tdiv n (sizeS p.w) = n / sizeS p.w := Int.tdiv_eq_ediv_of_nonneg h0
    have d1 : 0 ≤ n / sizeS p.w := Int.ediv_nonneg h0 (by omega)
    have d2 : n / sizeS p.w ≤ n := Int.ediv_le_self _ h0
    have hset : List.set (rowsOn l) (rd sc (k : Int)).toNat (splice (rowAt (rowsOn l) (rd sc (k : Int)).toNat) 0 [D.int .i64 (n % sizeS p.w)]) = rowsOn (l.set (rd sc (k : Int)).toNat (n % sizeS p.w)) := (OnL.set (α := Int) (n := l.length) ⟨rfl, rfl⟩ hbk.1 (by omega) (n % sizeS p.w)).1
    rw [e1, em, t1, t2, wrap_small (n / sizeS p.w) (by omega) (by omega), hset]
    have hr : (rowAt (rowsOn l) (rd sc (k : Int)).toNat).length = 1 := by rw [rowAt_on l _ hbk.1 (by omega)]; rfl
    exact ⟨⟨by rw [rowsOn_length]; omega, okSh_ok _ sc (k : Int) (fun _ => rfl) (by omega) (by omega)⟩, PreOk.mk trivial rfl, by omega, ⟨hbk.1, hbk.2⟩, ⟨by rw [rowsOn_length]; omega, hr, Nat.le_refl _⟩, PreOk.mk trivial rfl, by omega, ih _ _ (by omega) (by simpa using hl) d1 (by omega) h⟩
theorem idx_in {p : Prg} {b : Bool} {na : Nat} (h : na = (placesS p).length) : ∀ k : Nat, k < (idxW b (placesS p) 0).length → 0 ≤ rd (idxW b (placesS p) 0) (k : Int) ∧ rd (idxW b (placesS p) 0) (k : Int) < na := fun k hk => by
  obtain ⟨j, hj, e, _⟩ := idxW_rd b (placesS p) hk
  omega
theorem back_ok (l : List Int) (h : l.length ≤ 2000) : okBack none (rowsOn l) = true := by
  unfold okBack
  rw [Bool.and_eq_true]
  exact ⟨rowsOn_all l 1 rfl, decide_eq_true (by rw [rowsOn_length]; omega)⟩
theorem rep_on (n : Nat) : List.replicate n [D.int IntKind.i64 0] = rowsOn (List.replicate n (0 : Int)) := (OnL.rep n (0 : Int)).1
theorem l_pa1 (p : Prg) (hw : okW p.w) (hm : Mems p.mems) (i each one rest : Int) (h0 : 0 ≤ i) (h1 : i < 1000000) (he : 0 < each) (ho : 0 ≤ one) (hr : 0 ≤ rest) (ho1 : one ≤ 1000000) (hr1 : rest ≤ 1000000) (na : Nat) (hna : na = (placesS p).length) :
    (FnA.at_ a_pAt 1 (F_pa1 p i (openS p) (secS p) each one rest na na (rowsOn (List.replicate na (0 : Int))) (rowsOn (List.replicate na (0 : Int))))).holds s_pAt.cx a_pAt.rs fun r => r.le (rpair ((startS p (rowP p (i / each) one)).1, (startS p (rowP p (i / each) (one + 1 + rest))).1, true)) := by
  obtain ⟨l1, l2, l3⟩ := split_len hm
  have hd0 : 0 ≤ i / each := Int.ediv_nonneg h0 (by omega)
  have hd1 : i / each ≤ i := Int.ediv_le_self _ h0
  have t1 : Int.tdiv i each = i / each := Int.tdiv_eq_ediv_of_nonneg h0
  have hrow : ∀ o, fillK (sizeS p.w) (secS p) (secS p).length (fillK (sizeS p.w) (openS p) (openS p).length (List.replicate na 0) (i / each)) o = rowP p (i / each) o := fun o => by
    rw [hna, ← l3]; rfl
  have rows : ∀ o, ∃ s, startS p (rowP p (i / each) o) = (s, true) := fun o => by
    obtain ⟨s, hs, _⟩ := start_hold p hm (rowP p (i / each) o) (rowP_len p _ _)
    exact ⟨s, hs⟩
  refine at_of_round s_pAt_sound (m := 400) ?_
  rw [t_pa1]
  simp only [listOf_rowsOn, t1, wrap_small (i / each) (show -9223372036854775808 ≤ i / each by omega) (show i / each ≤ 9223372036854775807 by omega)]
  refine ⟨by omega, PreOk.mk trivial rfl, back_ok _ l1, ?_⟩
  rw [rowsOn_length]
  refine l_f1 p i _ _ _ _ _ _ _ _ _ _ _ _ _ hw (idx_in hna) _ _ _ _ (Nat.le_refl _) (by simp) hd0 (by omega) ?_
  refine at_of_round s_pAt_sound (m := 400) ?_
  rw [t_pa2]
  simp only [listOf_rowsOn, t1, wrap_small (i / each) (show -9223372036854775808 ≤ i / each by omega) (show i / each ≤ 9223372036854775807 by omega)]
  refine ⟨by omega, PreOk.mk trivial rfl, back_ok _ l1, ?_⟩
  rw [rowsOn_length]
  refine l_f2 p i _ _ _ _ _ _ _ _ _ _ _ _ _ hw (idx_in hna) _ _ _ _ (Nat.le_refl _) (by simp) hd0 (by omega) ?_
  refine at_of_round s_pAt_sound (m := 400) ?_
  rw [t_pa3]
  simp only [listOf_rowsOn]
  refine ⟨PreOk.mk trivial rfl, back_ok _ l2, ?_⟩
  rw [rowsOn_length]
  refine l_f3 p _ _ _ _ _ _ _ _ _ _ _ hw (idx_in hna) _ _ _ _ (Nat.le_refl _) (by rw [fillK_len]; simp) ho (by omega) ?_
  refine at_of_round s_pAt_sound (m := 400) ?_
  rw [t_pa4]
  simp only [listOf_rowsOn, wrap_small (one + 1) (show -9223372036854775808 ≤ one + 1 by omega) (show one + 1 ≤ 9223372036854775807 by omega), wrap_small (one + 1 + rest) (show -9223372036854775808 ≤ one + 1 + rest by omega) (show one + 1 + rest ≤ 9223372036854775807 by omega)]
  refine ⟨PreOk.mk trivial rfl, back_ok _ l2, ?_⟩
  rw [rowsOn_length]
  refine l_f4 p _ _ _ _ _ _ _ _ _ _ _ _ hw (idx_in hna) _ _ _ _ (Nat.le_refl _) (by rw [fillK_len]; simp) (by omega) (by omega) ?_
  refine at_of_round s_pAt_sound (m := 400) ?_
  rw [t_pa5]
  simp only [listOf_rowsOn, Prg.of_cells, hrow]
  obtain ⟨s1, e1⟩ := rows one
  obtain ⟨s2, e2⟩ := rows (one + 1 + rest)
  refine ⟨PreOk.mk hm rfl, all_holds fun y hy => ⟨PreOk.mk hm rfl, all_holds fun z hz => ?_⟩⟩
  replace hy : y = (s1, true) := by rw [hy, ← e1, ← hrow]; rfl
  replace hz : z = (s2, true) := by rw [hz, ← e2, ← hrow]; rfl
  subst hy hz
  rw [e1, e2]
  exact br_holds (fun _ => ret_le (RR.le_refl _)) (fun h => by cases h)
theorem l_pa00 (p : Prg) (hw : okW p.w) (hm : Mems p.mems) (i all each : Int) (h0 : 0 ≤ i) (h1 : i < 1000000) (he : 0 < each) (ha : 0 < all) (ha1 : all ≤ farS) : ∀ (m : Nat) (one rest : Int), 0 ≤ rest → rest ≤ 1000000 → 0 ≤ one → one < all → one + rest ≤ 1000000 → 2 * rest < (all - one) * (all - one - 1) → rest ≤ m →
    (FnA.at_ a_pAt 0 (F_pa0 p i (openS p) (secS p) all each one rest)).holds s_pAt.cx a_pAt.rs fun r => r.le (rpair ((startS p (rowP p (i / each) (oneF all m one rest).1)).1, (startS p (rowP p (i / each) ((oneF all m one rest).1 + 1 + (oneF all m one rest).2))).1, true)) := by
  intro m
  obtain ⟨l1, l2, l3⟩ := split_len hm
  dsimp only [farS] at ha1
  have hl : ((openS p).length : Int) + ((secS p).length : Int) = ((placesS p).length : Int) := by omega
  have fin : ∀ one rest : Int, 0 ≤ rest → rest ≤ 1000000 → 0 ≤ one → one ≤ 1000000 → rest < all - 1 - one → one < all →
      (FnA.at_ a_pAt 0 (F_pa0 p i (openS p) (secS p) all each one rest)).holds s_pAt.cx a_pAt.rs fun r => r.le (rpair ((startS p (rowP p (i / each) one)).1, (startS p (rowP p (i / each) (one + 1 + rest))).1, true)) := by
    intro one rest r0 r1 o0 o1 hlt ho
    refine at_of_round s_pAt_sound (m := 400) ?_
    rw [t_pa0]
    have w1 : IntKind.wrap .i64 (all - 1) = all - 1 := wrap_small _ (by omega) (by omega)
    have w2 : IntKind.wrap .i64 (all - 1 - one) = all - 1 - one := wrap_small _ (by omega) (by omega)
    have w3 : IntKind.wrap .i64 ((placesS p).length : Int) = ((placesS p).length : Int) := wrap_small _ (by omega) (by omega)
    simp only [w1, w2, rowsOn_length, hl, w3, Int.toNat_natCast]
    refine br_dec (fun h => by omega) (fun h => ⟨⟨trivial, by omega, by omega⟩, ⟨trivial, by omega, by omega⟩, ?_⟩)
    rw [rep_on]
    exact l_pa1 p hw hm i each one rest h0 h1 he o0 r0 o1 r1 _ rfl
  induction m with
  | zero =>
    intro one rest r0 r1 o0 o1 hs h2 hm0
    have hx : all - one - 1 ≠ 0 := fun e => by rw [e, Int.mul_zero] at h2; omega
    exact fin one rest r0 r1 o0 (by omega) (by omega) o1
  | succ m ih =>
    intro one rest r0 r1 o0 o1 hs h2 hm0
    have hx : all - one - 1 ≠ 0 := fun e => by rw [e, Int.mul_zero] at h2; omega
    unfold oneF
    by_cases h : all - 1 - one ≤ rest
    · rw [if_pos h]
      refine at_of_round s_pAt_sound (m := 400) ?_
      rw [t_pa0]
      have ht := tri (all - one)
      have e1 : all - (one + 1) = all - one - 1 := by omega
      have w1 : IntKind.wrap .i64 (all - 1) = all - 1 := wrap_small _ (by omega) (by omega)
      have w2 : IntKind.wrap .i64 (all - 1 - one) = all - 1 - one := wrap_small _ (by omega) (by omega)
      have w3 : IntKind.wrap .i64 (one + 1) = one + 1 := wrap_small _ (by omega) (by omega)
      have w4 : IntKind.wrap .i64 (rest - (all - 1 - one)) = rest - (all - 1 - one) := wrap_small _ (by omega) (by omega)
      rw [w1, w2, w3, w4]
      refine br_dec (fun _ => ?_) (fun q => absurd h q)
      exact ih (one + 1) (rest - (all - 1 - one)) (by omega) (by omega) (by omega) (by omega) (by omega) (by rw [e1]; omega) (by omega)
    · rw [if_neg h]
      exact fin one rest r0 r1 o0 (by omega) (by omega) o1
theorem zero_le2 : (RR.tup [.inr [.d (.int .i64 0), .d (.int .i64 0), .d (.int .i64 0), .d (.int .i64 0), .nil, .nil, .d (.int .i64 0)], .inr [.d (.int .i64 0), .d (.int .i64 0), .d (.int .i64 0), .d (.int .i64 0), .nil, .nil, .d (.int .i64 0)], .inl (.d (.bool false))]).le (rpair (zeroSta 0, zeroSta 0, false)) := by
  simp [rpair, zeroSta, Sta.fresh, RR.le, Rc.le1s, Rc.le1, Rc.les, rowsOn]
theorem c_pAt_good : c_pAt.fe.Good Try.prog := by
  refine FT.good c_pAt ⟨Try.f45, by kernel_rfl, by decide +kernel, by kernel_rfl⟩ (fun ⟨p, i⟩ => by first | rfl | simp [c_pAt, rrRef, rsplit, rnewI, rnewE, rstab, rplaces, ri, rb, rib, rnum, rby, rss, rpair, Sta.fresh]) fun ⟨p, i⟩ hp => ?_
  refine acalls_leZ Z_fill_ok s_pAt_sound (fn := Try.f45) (a := a_pAt) (nargs := 2) (tbl := [(7, [1, 2, 4, 5, 7, 8, 9, 10, 11, 12]), (1000000018, [1, 2, 4, 5, 7, 8, 10, 11, 12, 13, 14, 1000013000000900001001, 1000014000000900002001]), (1000000019, [1, 2, 4, 5, 7, 8, 10, 11, 12, 13, 14, 1000013000000900001001, 1000014000000900002001]), (1000000020, [2, 4, 5, 8, 11, 12, 13, 14, 1000013000000900001001, 1000014000000900002001]), (1000000021, [2, 4, 5, 8, 11, 12, 13, 14, 1000013000000900001001, 1000014000000900002001]), (1000000022, [2, 4, 5, 13, 14, 1000013000000900001001, 1000014000000900002001])]) (by kernel_rfl) (by kernel_rfl) rfl (m := 400) ?_
  show VC.holds _ _ _ (a_pAt.start s_pAt 400 [ap p, ai i])
  rw [t_pAt]
  try simp only [asRows_sl, asInt_int, asBool_bool, asStr_str, listOf_rowsOn, List.drop_zero, Prg.eta, Sta.eta, rowsOn_length, getD_drop, Nat.reduceAdd, rd_int, rd_PMem_name, rd_PMem_secret, rd_PMem_n, rd_PLabel_name, rd_PLabel_at_, rd_Ins_kind, rd_Ins_op, rd_Ins_d, rd_Ins_aR, rd_Ins_aN, rd_Ins_bR, rd_Ins_bN, rd_Ins_name, rd_Ins_target, rd_Ent_pc, rd_Ent_val, rd_Ent_addr, rd_Ent_fro, rd_Ent_next, rd_Ent_done, rd_Ent_known, rd_Ent_fault, rd_Place_reg, rd_Place_n, rd_Place_secret, rd_Obs_kind, rd_Obs_at_, rd_Dir_kind, rd_Dir_n, Prg.of_cells, Sta.of_cells]
  try simp only [c_pAt] at hp
  obtain ⟨hw, hm⟩ := hp
  obtain ⟨l1, l2, l3⟩ := split_len hm
  have e : c_pAt.ans (p, i) = rpair (atP p i) := rfl
  rw [e]
  refine ⟨PreOk.mk hm rfl, all_holds fun y hy => ?_⟩
  replace hy : y = (openS p, secS p) := hy
  subst hy
  simp only [Prg.of_cells, rowsOn_length]
  obtain ⟨a1, a2, a3⟩ := powS_pos hw (openS p).length
  obtain ⟨b1, b2, b3⟩ := powS_pos hw (secS p).length
  obtain ⟨c1, c2, c3⟩ := twoS_pos b1
  unfold atP
  refine ⟨PreOk.mk ⟨hw, by dsimp only; omega, by dsimp only; omega⟩ rfl, all_holds fun A hA => ?_⟩
  replace hA : A = powS p (secS p).length := by rw [hA]; simp [v_power]
  rw [← hA] at b1 b2 b3 c1 c2 c3 ⊢
  refine ⟨PreOk.mk ⟨by dsimp only; omega, by dsimp only; omega⟩ rfl, all_holds fun E hE => ?_⟩
  replace hE : E = twoS A := hE
  rw [← hE] at c1 c2 c3 ⊢
  clear hE
  refine br_dec (fun h => ?_) (fun h0 => ?_)
  · rw [if_pos (.inl h)]; exact ret_le zero_le2
  refine br_dec (fun h => ?_) (fun h1 => ?_)
  · rw [if_pos (.inr (.inl h))]; exact ret_le zero_le2
  refine br_beq (fun h => ?_) (fun h2 => ?_)
  · rw [if_pos (.inr (.inr (.inl h)))]; exact ret_le zero_le2
  have t1 : Int.tdiv i E = i / E := Int.tdiv_eq_ediv_of_nonneg (by omega)
  have t2 : Int.tmod i E = i % E := Int.tmod_eq_emod_of_nonneg (by omega)
  have d0 : 0 ≤ i / E := Int.ediv_nonneg (by omega) c1
  have d1 : i / E ≤ i := Int.ediv_le_self _ (by omega)
  have m0 := Int.emod_nonneg i h2
  have m1 := Int.emod_lt_of_pos i (show 0 < E by omega)
  have m2 : i % E ≤ i := by have := Int.mul_ediv_add_emod i E; have : 0 ≤ E * (i / E) := Int.mul_nonneg c1 d0; omega
  rw [t1, t2, wrap_small (i / E) (by omega) (by omega)]
  refine ⟨h2, PreOk.mk ⟨hw, by dsimp only; omega, by dsimp only; omega⟩ rfl, all_holds fun P hP => ?_⟩
  replace hP : P = powS p (openS p).length := by rw [hP]; simp [v_power]
  rw [← hP]
  refine br_dec (fun h => ?_) (fun h3 => ?_)
  · rw [if_pos (.inr (.inr (.inr h)))]; exact ret_le zero_le2
  rw [if_neg (by omega)]
  exact ⟨h2, l_pa00 p hw hm i A E (by omega) (by omega) (by omega) (by omega) b2 _ 0 (i % E) m0 (by omega) (by omega) (by omega) (by omega) (by rw [Int.sub_zero]; omega) (by omega)⟩
end Go.Proofs.Ytclabjihjopclaa.Ax
end

section
/- Layer 19: what the laws look at: hold, less. -/
namespace Go.Proofs.Ytclabjihjopclaa.Ax
open Go.RowKit
set_option linter.unusedVariables false
set_option linter.unusedSimpArgs false
noncomputable def v_count : Prg × Int → Int × Bool := fun x => countS x.1 x.2
noncomputable def sh_count : Int × Bool → RR := fun y => rib y
theorem e_count (x : Prg × Int) : sh_count (v_count x) = c_count.ans x := rfl
noncomputable def v_pAt : Prg × Int → Sta × Sta × Bool := fun x => atP x.1 x.2
noncomputable def sh_pAt : Sta × Sta × Bool → RR := fun y => rpair y
theorem e_pAt (x : Prg × Int) : sh_pAt (v_pAt x) = c_pAt.ans x := rfl
def rdPSB : List A → Prg × Sta × Bool
  | [.agg l, .agg s, .c (.bool b)] => (Prg.of l, Sta.of s, b)
  | _ => default
def rint (l : List Int) : RR := .c (.new 1 (rowsOn l))
def c_hold : FT (Prg × Sta × Bool) := ⟨48, fun x => [ap x.1, as_ x.2.1, .c (.bool x.2.2)], rdPSB, fun x => Mems x.1.mems ∧ x.2.1.mem.length = cellsS x.1.mems, fun x => rint (holdV x.1 x.2.1 x.2.2), false, fun x => by simp [ap, as_, rdPSB]⟩
noncomputable def a_hold : FnA := (fnA Try.prog Try.f48 3 [(3, [2, 4, 7, 11, 12, 13, 1000007000000900001001, 1000011000000900002003])]).getD ⟨0, .skip, [], []⟩
noncomputable def s_hold : Sp := spT [c_rPlaces.gfe v_rPlaces sh_rPlaces e_rPlaces]
theorem s_hold_sound : s_hold.sound Try.prog := spT_sound fun e he => by
  simp only [List.mem_cons, List.not_mem_nil, or_false] at he
  rcases he with rfl
  · exact FT.gfe_good c_rPlaces_good
def F_hold (b : Bool) (s : Sta) (q : List (List D)) (nq n : Nat) (R : List (List D)) (nn i : Int) : St := ⟨mkS 48 [(2, .c (.d (.bool b))), (4, vp 256), (7, vo 900001 n), (11, vo 900002 nq), (12, vi nn), (13, vi i)], [(256, bx s.cells), (900001, ba 1 R), (900002, ba 3 q)]⟩
set_option maxRecDepth 100000 in
theorem t_hold (p : Prg) (s : Sta) (b : Bool) : a_hold.start s_hold 400 [ap p, as_ s, .c (.bool b)] =
(VC.need (PreOk c_rPlaces p [A.agg (Prg.cells p)])
(VC.all (v_rPlaces { w := p.w, window := p.window, fuel := p.fuel, r0 := p.r0, r1 := p.r1, r2 := p.r2, r3 := p.r3, mems := listOf PMem (rowsOn p.mems), labels := listOf PLabel (rowsOn p.labels), ins := listOf Ins (rowsOn p.ins) }) fun (y3 : List Place) =>
(FnA.at_ a_hold 0 (F_hold b s (rowsOn y3) (List.length (rowsOn y3)) (0 : Nat) [] (↑(List.length (rowsOn y3)) : Int) (0 : Int))))) := by kernel_rfl
set_option maxRecDepth 100000 in
theorem t_hold0 (b : Bool) (s : Sta) (q : List (List D)) (nq n : Nat) (R : List (List D)) (nn i : Int) : a_hold.round s_hold 400 0 (F_hold b s q nq n R nn i) =
(VC.br (decide (i < nn))
 (VC.need ((0 : Int) ≤ i ∧ i < (↑nq : Int))
 (VC.need (Int.toNat i < List.length q ∧ List.length (rowAt q (Int.toNat i)) = (3 : Nat) ∧ okSh [Kd.bool, Kd.int IntKind.i64, Kd.bool] (List.drop (0 : Nat) (rowAt q (Int.toNat i))))
 (VC.br (if true = true then !asBool (List.getD (List.drop (0 : Nat) (rowAt q (Int.toNat i))) (2 : Nat) D.nilp) == b else asBool (List.getD (List.drop (0 : Nat) (rowAt q (Int.toNat i))) (2 : Nat) D.nilp) == b)
  (FnA.at_ a_hold 0 (F_hold b s q nq n R nn (IntKind.wrap IntKind.i64 (i + (1 : Int)))))
  (VC.br (asBool (List.getD (List.drop (0 : Nat) (rowAt q (Int.toNat i))) (0 : Nat) D.nilp))
   (VC.br (decide (asInt (List.getD (List.drop (0 : Nat) (rowAt q (Int.toNat i))) (1 : Nat) D.nilp) = (0 : Int)))
    (VC.need ((List.all [[D.int IntKind.i64 s.r0]] fun r ↦ List.length r == (1 : Nat)) = true ∧ (List.all R fun r ↦ List.length r == (1 : Nat)) = true ∧ (List.length R + List.length [[D.int IntKind.i64 s.r0]] + (100 : Nat)) * (9 : Nat) ≤ (70368744177664 : Nat))
    (FnA.at_ a_hold 0 (F_hold b s q nq (List.length R + List.length [[D.int IntKind.i64 s.r0]]) (R ++ [[D.int IntKind.i64 s.r0]]) nn (IntKind.wrap IntKind.i64 (i + (1 : Int))))))
    (VC.br (decide (asInt (List.getD (List.drop (0 : Nat) (rowAt q (Int.toNat i))) (1 : Nat) D.nilp) = (1 : Int)))
     (VC.need ((List.all [[D.int IntKind.i64 s.r1]] fun r ↦ List.length r == (1 : Nat)) = true ∧ (List.all R fun r ↦ List.length r == (1 : Nat)) = true ∧ (List.length R + List.length [[D.int IntKind.i64 s.r1]] + (100 : Nat)) * (9 : Nat) ≤ (70368744177664 : Nat))
     (FnA.at_ a_hold 0 (F_hold b s q nq (List.length R + List.length [[D.int IntKind.i64 s.r1]]) (R ++ [[D.int IntKind.i64 s.r1]]) nn (IntKind.wrap IntKind.i64 (i + (1 : Int))))))
     (VC.br (decide (asInt (List.getD (List.drop (0 : Nat) (rowAt q (Int.toNat i))) (1 : Nat) D.nilp) = (2 : Int)))
      (VC.need ((List.all [[D.int IntKind.i64 s.r2]] fun r ↦ List.length r == (1 : Nat)) = true ∧ (List.all R fun r ↦ List.length r == (1 : Nat)) = true ∧ (List.length R + List.length [[D.int IntKind.i64 s.r2]] + (100 : Nat)) * (9 : Nat) ≤ (70368744177664 : Nat))
      (FnA.at_ a_hold 0 (F_hold b s q nq (List.length R + List.length [[D.int IntKind.i64 s.r2]]) (R ++ [[D.int IntKind.i64 s.r2]]) nn (IntKind.wrap IntKind.i64 (i + (1 : Int))))))
      (VC.br (decide (asInt (List.getD (List.drop (0 : Nat) (rowAt q (Int.toNat i))) (1 : Nat) D.nilp) = (3 : Int)))
       (VC.need ((List.all [[D.int IntKind.i64 s.r3]] fun r ↦ List.length r == (1 : Nat)) = true ∧ (List.all R fun r ↦ List.length r == (1 : Nat)) = true ∧ (List.length R + List.length [[D.int IntKind.i64 s.r3]] + (100 : Nat)) * (9 : Nat) ≤ (70368744177664 : Nat))
       (FnA.at_ a_hold 0 (F_hold b s q nq (List.length R + List.length [[D.int IntKind.i64 s.r3]]) (R ++ [[D.int IntKind.i64 s.r3]]) nn (IntKind.wrap IntKind.i64 (i + (1 : Int))))))
       VC.ff))))
   (VC.br (decide (asInt (List.getD (List.drop (0 : Nat) (rowAt q (Int.toNat i))) (1 : Nat) D.nilp) < (↑(List.length (rowsOn s.mem)) : Int)))
    (VC.need ((0 : Int) ≤ asInt (List.getD (List.drop (0 : Nat) (rowAt q (Int.toNat i))) (1 : Nat) D.nilp) ∧ asInt (List.getD (List.drop (0 : Nat) (rowAt q (Int.toNat i))) (1 : Nat) D.nilp) < (↑(List.length (rowsOn s.mem)) : Int) ∧ List.length (rowAt (rowsOn s.mem) (Int.toNat (asInt (List.getD (List.drop (0 : Nat) (rowAt q (Int.toNat i))) (1 : Nat) D.nilp)))) = (1 : Nat))
    (VC.need (okSh [Kd.int IntKind.i64] (rowAt (rowsOn s.mem) (Int.toNat (asInt (List.getD (List.drop (0 : Nat) (rowAt q (Int.toNat i))) (1 : Nat) D.nilp)))))
    (VC.need ((List.all [[D.int IntKind.i64 (asInt (List.getD (rowAt (rowsOn s.mem) (Int.toNat (asInt (List.getD (List.drop (0 : Nat) (rowAt q (Int.toNat i))) (1 : Nat) D.nilp)))) (0 : Nat) D.nilp))]] fun r ↦ List.length r == (1 : Nat)) = true ∧ (List.all R fun r ↦ List.length r == (1 : Nat)) = true ∧ (List.length R + List.length [[D.int IntKind.i64 (asInt (List.getD (rowAt (rowsOn s.mem) (Int.toNat (asInt (List.getD (List.drop (0 : Nat) (rowAt q (Int.toNat i))) (1 : Nat) D.nilp)))) (0 : Nat) D.nilp))]] + (100 : Nat)) * (9 : Nat) ≤ (70368744177664 : Nat))
    (FnA.at_ a_hold 0 (F_hold b s q nq (List.length R + List.length [[D.int IntKind.i64 (asInt (List.getD (rowAt (rowsOn s.mem) (Int.toNat (asInt (List.getD (List.drop (0 : Nat) (rowAt q (Int.toNat i))) (1 : Nat) D.nilp)))) (0 : Nat) D.nilp))]]) (R ++ [[D.int IntKind.i64 (asInt (List.getD (rowAt (rowsOn s.mem) (Int.toNat (asInt (List.getD (List.drop (0 : Nat) (rowAt q (Int.toNat i))) (1 : Nat) D.nilp)))) (0 : Nat) D.nilp))]]) nn (IntKind.wrap IntKind.i64 (i + (1 : Int))))))))
    (FnA.at_ a_hold 0 (F_hold b s q nq n R nn (IntKind.wrap IntKind.i64 (i + (1 : Int))))))))))
 (VC.ret (some (RR.c (Rc.new (1 : Nat) R))))) := by kernel_rfl
theorem filter_take (b : Bool) (q : List Place) (f : Place → Int) (k : Nat) (h : k < q.length) : ((q.take (k + 1)).filter fun x => x.secret == b).map f = ((q.take k).filter fun x => x.secret == b).map f ++ (if (q[k].secret == b) = true then [f q[k]] else []) := by
  rw [List.take_succ_eq_append_getElem h, List.filter_append, List.map_append]
  congr 1
  rw [List.filter_cons]
  split <;> rfl
theorem rd_getN {α : Type} [Row α] [Inhabited α] (q : List α) (i : Int) (h0 : 0 ≤ i) (h : i < q.length) : rd q i = q[i.toNat] := by
  unfold rd
  rw [List.getD_eq_getElem?_getD, List.getElem?_eq_getElem (by omega)]
  rfl
theorem l_hold0 (b : Bool) (s : Sta) (q : List Place) (hq : PlacesOk q s.mem.length) (hl : q.length ≤ 10000) : ∀ i_ : Int × Nat × List (List D), (fun (i : Int × Nat × List (List D)) => 0 ≤ i.1 ∧ i.1 ≤ q.length ∧ OnL i.2.2 i.2.1 (((q.take i.1.toNat).filter fun x => x.secret == b).map (holdP s))) i_ → (a_hold.at_ 0 ((fun (i : Int × Nat × List (List D)) => F_hold b s (rowsOn q) q.length i.2.1 i.2.2 q.length i.1) i_)).holds s_hold.cx a_hold.rs (fun r => r.le (rint ((q.filter fun x => x.secret == b).map (holdP s)))) := by
  refine loop_rule (a := a_hold) (j := 0) (m := 400) s_hold_sound (fun (i : Int × Nat × List (List D)) => F_hold b s (rowsOn q) q.length i.2.1 i.2.2 q.length i.1) (fun (i : Int × Nat × List (List D)) => 0 ≤ i.1 ∧ i.1 ≤ q.length ∧ OnL i.2.2 i.2.1 (((q.take i.1.toNat).filter fun x => x.secret == b).map (holdP s))) (fun (i : Int × Nat × List (List D)) => ((q.length : Int) - i.1).toNat) ?_
  rintro ⟨i, n, R⟩ h_inv ih
  try dsimp only at h_inv
  replace ih := fun (v0 : Int) (v1 : Nat) (v2 : List (List D)) => ih (v0, v1, v2)
  try dsimp only at ih
  show VC.holds _ _ _ (a_hold.round s_hold 400 0 (F_hold b s (rowsOn q) q.length n R q.length i))
  rw [t_hold0]
  try simp only [asRows_sl, asInt_int, asBool_bool, asStr_str, listOf_rowsOn, List.drop_zero, Prg.eta, Sta.eta, rowsOn_length, getD_drop, Nat.reduceAdd, rd_int, rd_PMem_name, rd_PMem_secret, rd_PMem_n, rd_PLabel_name, rd_PLabel_at_, rd_Ins_kind, rd_Ins_op, rd_Ins_d, rd_Ins_aR, rd_Ins_aN, rd_Ins_bR, rd_Ins_bN, rd_Ins_name, rd_Ins_target, rd_Ent_pc, rd_Ent_val, rd_Ent_addr, rd_Ent_fro, rd_Ent_next, rd_Ent_done, rd_Ent_known, rd_Ent_fault, rd_Place_reg, rd_Place_n, rd_Place_secret, rd_Obs_kind, rd_Obs_at_, rd_Dir_kind, rd_Dir_n, Prg.of_cells, Sta.of_cells]
  obtain ⟨h0, h1, h2⟩ := h_inv
  have w1 : IntKind.wrap .i64 (i + 1) = i + 1 := wrap_small _ (by omega) (by omega)
  simp only [w1]
  have hl2 : (((q.take i.toNat).filter fun x => x.secret == b).map (holdP s)).length ≤ 10000 := by
    rw [List.length_map]
    exact Nat.le_trans (List.length_filter_le _ _) (by simp only [List.length_take]; omega)
  have en : (i + 1).toNat = i.toNat + 1 := by omega
  refine br_dec (fun hd => ?_) (fun hd => ?_)
  · have ht := filter_take b q (holdP s) i.toNat (by omega)
    have hx := rd_getN q i h0 hd
    rw [← hx] at ht
    have hk := hq (rd q i) (by rw [hx]; exact List.getElem_mem _)
    refine ⟨⟨h0, hd⟩, ⟨by omega, by rw [rowAt_on q i h0 hd]; rfl, okSh_ok _ q i (fun _ => rfl) h0 hd⟩, ?_⟩
    refine br_holds (fun hb => ?_) (fun hb => ?_)
    · have hb : ((rd q i).secret == b) = false := by simpa using hb
      rw [hb, if_neg (by simp), List.append_nil] at ht
      exact ih _ _ _ ⟨by omega, by omega, by rw [en, ht]; exact h2⟩ (by omega)
    · have hb : ((rd q i).secret == b) = true := by simpa using hb
      rw [hb, if_pos rfl] at ht
      have fin : ∀ v : Int, holdP s (rd q i) = v → OnL (R ++ [[D.int .i64 v]]) (R.length + [[D.int .i64 v]].length) (((q.take (i + 1).toNat).filter fun x => x.secret == b).map (holdP s)) := fun v hv => by
        rw [en, ht, hv]; exact h2.snoc v
      refine br_holds (fun hr => ?_) (fun hr => ?_)
      · obtain ⟨k1, k2⟩ := hk.1 hr
        have hp : ∀ v, s.reg (rd q i).n = v → holdP s (rd q i) = v := fun v e => by unfold holdP; rw [if_pos hr]; exact e
        refine br_dec (fun e => ?_) (fun e0 => br_dec (fun e => ?_) (fun e1 => br_dec (fun e => ?_) (fun e2 => br_dec (fun e => ?_) (fun e3 => by omega))))
        all_goals exact ⟨app_ok h2 rfl rfl (by simp only [List.length_cons, List.length_nil]; omega), ih _ _ _ ⟨by omega, by omega, fin _ (hp _ (by rw [e]; rfl))⟩ (by omega)⟩
      · have hr : (rd q i).reg = false := by simpa using hr
        obtain ⟨k1, k2⟩ := hk.2 hr
        refine br_dec (fun e => ?_) (fun e => by omega)
        refine ⟨⟨k1, k2, by rw [rowAt_on s.mem _ k1 k2]; rfl⟩, okSh_ok _ s.mem _ (fun _ => rfl) k1 k2, app_ok h2 rfl rfl (by simp only [List.length_cons, List.length_nil]; omega), ih _ _ _ ⟨by omega, by omega, fin _ ?_⟩ (by omega)⟩
        unfold holdP
        rw [if_neg (by simp [hr])]
  · have hi : i.toNat = q.length := by omega
    rw [hi, List.take_length] at h2
    refine ret_le ?_
    rw [h2.1]
    exact RR.le_refl _
theorem c_hold_good : c_hold.fe.Good Try.prog := by
  refine FT.good c_hold ⟨Try.f48, by kernel_rfl, by decide +kernel, by kernel_rfl⟩ (fun ⟨p, s, b⟩ => by first | rfl | simp [c_hold, rrRef, rpair, rsplit, rnewI, rnewE, rstab, rplaces, ri, rb, rib, rnum, rby, rss, rint, Sta.fresh]) fun ⟨p, s, b⟩ hp => ?_
  refine acalls_le s_hold_sound (fn := Try.f48) (a := a_hold) (nargs := 3) (tbl := [(3, [2, 4, 7, 11, 12, 13, 1000007000000900001001, 1000011000000900002003])]) (by kernel_rfl) (by kernel_rfl) rfl (m := 400) ?_
  show VC.holds _ _ _ (a_hold.start s_hold 400 [ap p, as_ s, .c (.bool b)])
  rw [t_hold]
  try simp only [asRows_sl, asInt_int, asBool_bool, asStr_str, listOf_rowsOn, List.drop_zero, Prg.eta, Sta.eta, rowsOn_length, getD_drop, Nat.reduceAdd, rd_int, rd_PMem_name, rd_PMem_secret, rd_PMem_n, rd_PLabel_name, rd_PLabel_at_, rd_Ins_kind, rd_Ins_op, rd_Ins_d, rd_Ins_aR, rd_Ins_aN, rd_Ins_bR, rd_Ins_bN, rd_Ins_name, rd_Ins_target, rd_Ent_pc, rd_Ent_val, rd_Ent_addr, rd_Ent_fro, rd_Ent_next, rd_Ent_done, rd_Ent_known, rd_Ent_fault, rd_Place_reg, rd_Place_n, rd_Place_secret, rd_Obs_kind, rd_Obs_at_, rd_Dir_kind, rd_Dir_n, Prg.of_cells, Sta.of_cells]
  try simp only [c_hold] at hp
  obtain ⟨hm, hs⟩ := hp
  have hl := places_len p hm
  have hok := places_ok p hm
  rw [← hs] at hok
  refine ⟨PreOk.mk hm rfl, all_holds fun y hy => ?_⟩
  replace hy : y = placesS p := by rw [hy]; simp [v_rPlaces]
  subst hy
  exact l_hold0 b s _ hok (by omega) (0, 0, []) ⟨by simp, by simp, OnL.nil⟩
def rdLL2 : List A → List Int × List Int
  | [.c (.sl l), .c (.sl m)] => (listOf Int l, listOf Int m)
  | _ => default
def c_less : FT (List Int × List Int) := ⟨49, fun x => [al x.1, al x.2], rdLL2, fun x => x.1.length ≤ 1000000000 ∧ x.2.length ≤ 1000000000, fun x => rb (lessL x.1 x.2), false, fun x => by simp [al, rdLL2]⟩
noncomputable def a_less : FnA := (fnA Try.prog Try.f49 2 [(2, [0, 1, 5])]).getD ⟨0, .skip, [], []⟩
def s_less : Sp := spT []
theorem s_less_sound : s_less.sound Try.prog := spT_sound fun e he => by cases he
def F_less (a b : List Int) (i : Int) : St := ⟨mkS 36 [(0, vr (rowsOn a)), (1, vr (rowsOn b)), (5, vi i)], []⟩
set_option maxRecDepth 100000 in
theorem t_less (a b : List Int) : a_less.start s_less 400 [al a, al b] =
(FnA.at_ a_less 0 (F_less a b (0 : Int))) := by kernel_rfl
set_option maxRecDepth 100000 in
theorem t_less0 (a b : List Int) (i : Int) : a_less.round s_less 400 0 (F_less a b i) =
(VC.br (decide (i < (↑(List.length (rowsOn a)) : Int)))
 (VC.br (decide (i < (↑(List.length (rowsOn b)) : Int)))
  (VC.need ((0 : Int) ≤ i ∧ i < (↑(List.length (rowsOn a)) : Int) ∧ List.length (rowAt (rowsOn a) (Int.toNat i)) = (1 : Nat))
  (VC.need (okSh [Kd.int IntKind.i64] (rowAt (rowsOn a) (Int.toNat i)))
  (VC.need ((0 : Int) ≤ i ∧ i < (↑(List.length (rowsOn b)) : Int) ∧ List.length (rowAt (rowsOn b) (Int.toNat i)) = (1 : Nat))
  (VC.need (okSh [Kd.int IntKind.i64] (rowAt (rowsOn b) (Int.toNat i)))
  (VC.br (asInt (List.getD (rowAt (rowsOn a) (Int.toNat i)) (0 : Nat) D.nilp) != asInt (List.getD (rowAt (rowsOn b) (Int.toNat i)) (0 : Nat) D.nilp))
   (VC.need ((0 : Int) ≤ i ∧ i < (↑(List.length (rowsOn a)) : Int) ∧ List.length (rowAt (rowsOn a) (Int.toNat i)) = (1 : Nat))
   (VC.need (okSh [Kd.int IntKind.i64] (rowAt (rowsOn a) (Int.toNat i)))
   (VC.need ((0 : Int) ≤ i ∧ i < (↑(List.length (rowsOn b)) : Int) ∧ List.length (rowAt (rowsOn b) (Int.toNat i)) = (1 : Nat))
   (VC.need (okSh [Kd.int IntKind.i64] (rowAt (rowsOn b) (Int.toNat i)))
   (VC.ret (some (RR.c (Rc.d (D.bool (decide (asInt (List.getD (rowAt (rowsOn a) (Int.toNat i)) (0 : Nat) D.nilp) < asInt (List.getD (rowAt (rowsOn b) (Int.toNat i)) (0 : Nat) D.nilp))))))))))))
   (FnA.at_ a_less 0 (F_less a b (IntKind.wrap IntKind.i64 (i + (1 : Int))))))))))
  (VC.ret (some (RR.c (Rc.d (D.bool false))))))
 (VC.ret (some (RR.c (Rc.d (D.bool false)))))) := by kernel_rfl
theorem lessL_drop (a b : List Int) (i : Nat) (ha : i < a.length) (hb : i < b.length) : lessL (a.drop i) (b.drop i) = if a[i] = b[i] then lessL (a.drop (i + 1)) (b.drop (i + 1)) else decide (a[i] < b[i]) := by
  rw [List.drop_eq_getElem_cons ha, List.drop_eq_getElem_cons hb]
  rfl
theorem l_less0 (a b : List Int) (ha : a.length ≤ 1000000000) (hb : b.length ≤ 1000000000) : ∀ i_ : Int, (fun (i : Int) => 0 ≤ i ∧ i ≤ a.length ∧ i ≤ b.length ∧ lessL (a.drop i.toNat) (b.drop i.toNat) = lessL a b) i_ → (a_less.at_ 0 ((fun (i : Int) => F_less a b i) i_)).holds s_less.cx a_less.rs (fun r => r.le (rb (lessL a b))) := by
  refine loop_rule (a := a_less) (j := 0) (m := 400) s_less_sound (fun (i : Int) => F_less a b i) (fun (i : Int) => 0 ≤ i ∧ i ≤ a.length ∧ i ≤ b.length ∧ lessL (a.drop i.toNat) (b.drop i.toNat) = lessL a b) (fun (i : Int) => ((a.length : Int) - i).toNat) ?_
  rintro i h_inv ih
  try dsimp only at h_inv
  show VC.holds _ _ _ (a_less.round s_less 400 0 (F_less a b i))
  rw [t_less0]
  try simp only [asRows_sl, asInt_int, asBool_bool, asStr_str, listOf_rowsOn, List.drop_zero, Prg.eta, Sta.eta, rowsOn_length, getD_drop, Nat.reduceAdd, rd_int, rd_PMem_name, rd_PMem_secret, rd_PMem_n, rd_PLabel_name, rd_PLabel_at_, rd_Ins_kind, rd_Ins_op, rd_Ins_d, rd_Ins_aR, rd_Ins_aN, rd_Ins_bR, rd_Ins_bN, rd_Ins_name, rd_Ins_target, rd_Ent_pc, rd_Ent_val, rd_Ent_addr, rd_Ent_fro, rd_Ent_next, rd_Ent_done, rd_Ent_known, rd_Ent_fault, rd_Place_reg, rd_Place_n, rd_Place_secret, rd_Obs_kind, rd_Obs_at_, rd_Dir_kind, rd_Dir_n, Prg.of_cells, Sta.of_cells]
  obtain ⟨h0, h1, h2, h3⟩ := h_inv
  have w1 : IntKind.wrap .i64 (i + 1) = i + 1 := wrap_small _ (by omega) (by omega)
  simp only [w1]
  have en : (i + 1).toNat = i.toNat + 1 := by omega
  refine br_dec (fun hd => br_dec (fun he => ?_) (fun he => ?_)) (fun hd => ?_)
  · have hx := rd_getN a i h0 hd
    have hy := rd_getN b i h0 he
    have hz := lessL_drop a b i.toNat (by omega) (by omega)
    rw [← hx, ← hy, h3] at hz
    have g1 : (0 ≤ i ∧ i < (a.length : Int) ∧ (rowAt (rowsOn a) i.toNat).length = 1) := ⟨h0, hd, by rw [rowAt_on a i h0 hd]; rfl⟩
    have g2 : (0 ≤ i ∧ i < (b.length : Int) ∧ (rowAt (rowsOn b) i.toNat).length = 1) := ⟨h0, he, by rw [rowAt_on b i h0 he]; rfl⟩
    have g3 := okSh_ok [Kd.int .i64] a i (fun _ => rfl) h0 hd
    have g4 := okSh_ok [Kd.int .i64] b i (fun _ => rfl) h0 he
    refine ⟨g1, g3, g2, g4, br_bne (fun hn => ?_) (fun hn => ?_)⟩
    · refine ⟨g1, g3, g2, g4, ret_le ?_⟩
      rw [hz, if_neg hn]
      exact RR.le_refl _
    · rw [if_pos hn] at hz
      exact ih _ ⟨by omega, by omega, by omega, by rw [en]; exact hz.symm⟩ (by omega)
  · have e : b.drop i.toNat = [] := List.drop_eq_nil_of_le (by omega)
    have e2 : lessL a b = false := by rw [← h3, e]; cases a.drop i.toNat <;> rfl
    refine ret_le ?_
    rw [e2]; exact RR.le_refl _
  · have e : a.drop i.toNat = [] := List.drop_eq_nil_of_le (by omega)
    have e2 : lessL a b = false := by rw [← h3, e]; cases b.drop i.toNat <;> rfl
    refine ret_le ?_
    rw [e2]; exact RR.le_refl _
theorem c_less_good : c_less.fe.Good Try.prog := by
  refine FT.good c_less ⟨Try.f49, by kernel_rfl, by decide +kernel, by kernel_rfl⟩ (fun ⟨a, b⟩ => by first | rfl | simp [c_less, rrRef, rpair, rsplit, rnewI, rnewE, rstab, rplaces, ri, rb, rib, rnum, rby, rss, rint, Sta.fresh]) fun ⟨a, b⟩ hp => ?_
  refine acalls_le s_less_sound (fn := Try.f49) (a := a_less) (nargs := 2) (tbl := [(2, [0, 1, 5])]) (by kernel_rfl) (by kernel_rfl) rfl (m := 400) ?_
  show VC.holds _ _ _ (a_less.start s_less 400 [al a, al b])
  rw [t_less]
  try simp only [asRows_sl, asInt_int, asBool_bool, asStr_str, listOf_rowsOn, List.drop_zero, Prg.eta, Sta.eta, rowsOn_length, getD_drop, Nat.reduceAdd, rd_int, rd_PMem_name, rd_PMem_secret, rd_PMem_n, rd_PLabel_name, rd_PLabel_at_, rd_Ins_kind, rd_Ins_op, rd_Ins_d, rd_Ins_aR, rd_Ins_aN, rd_Ins_bR, rd_Ins_bN, rd_Ins_name, rd_Ins_target, rd_Ent_pc, rd_Ent_val, rd_Ent_addr, rd_Ent_fro, rd_Ent_next, rd_Ent_done, rd_Ent_known, rd_Ent_fault, rd_Place_reg, rd_Place_n, rd_Place_secret, rd_Obs_kind, rd_Obs_at_, rd_Dir_kind, rd_Dir_n, Prg.of_cells, Sta.of_cells]
  try simp only [c_less] at hp
  exact l_less0 a b hp.1 hp.2 0 ⟨by omega, by omega, by omega, rfl⟩
theorem atP_small {p : Prg} (hw : okW p.w) (hm : Mems p.mems) (i : Int) : SmallS (atP p i).1 ∧ SmallS (atP p i).2.1 := by
  have hc := (places_len p hm).2
  by_cases h : 0 ≤ i ∧ i < 1000000 ∧ i < cntS p
  · obtain ⟨u, o, q, e, _⟩ := (atP_spec hw i).1 h
    obtain ⟨s1, a1, a2, a3, _⟩ := start_hold p hm (rowP p u o) (rowP_len p u o)
    obtain ⟨s2, b1, b2, b3, _⟩ := start_hold p hm (rowP p u q) (rowP_len p u q)
    rw [e, a1, b1]
    exact ⟨⟨by dsimp only; omega, by dsimp only; rw [a3]; decide⟩, ⟨by dsimp only; omega, by dsimp only; rw [b3]; decide⟩⟩
  · rw [(atP_spec hw i).2 h]
    exact ⟨⟨by decide, by decide⟩, ⟨by decide, by decide⟩⟩
end Go.Proofs.Ytclabjihjopclaa.Ax
end

section
/- Layer 19, by the document: sizes, counts. -/
namespace Go.Proofs.Ytclabjihjopclaa.Ax
open Go.RowKit
set_option linter.unusedVariables false
set_option linter.unusedSimpArgs false
def greatS : Int := 1099511627776
def rdIIIt : List A → Int × Int × Int
  | [.c (.int _ a), .c (.int _ b), .c (.int _ c)] => (a, b, c)
  | _ => default
def c_rTimes : FT (Int × Int × Int) := ⟨97, fun x => [ai x.1, ai x.2.1, ai x.2.2], rdIIIt, fun x => x.2.2 = greatS ∧ 0 ≤ x.1 ∧ x.1 ≤ greatS + 1 ∧ 0 ≤ x.2.1 ∧ x.2.1 ≤ 4398046511104, fun x => ri (min (x.1 * x.2.1) (greatS + 1)), false, fun x => by simp [ai, rdIIIt]⟩
noncomputable def a_rTimes : FnA := (fnA Try.prog Try.f97 3 [(7, [3, 4, 6, 7])]).getD ⟨0, .skip, [], []⟩
def s_rTimes : Sp := spT []
theorem s_rTimes_sound : s_rTimes.sound Try.prog := spT_sound fun e he => by cases he
set_option maxRecDepth 100000 in
theorem t_rTimes (a b c : Int) : a_rTimes.start s_rTimes 400 [ai a, ai b, ai c] =
(VC.br (decide ((0 : Int) < a))
 (VC.need (a ≠ (0 : Int))
 (VC.br (decide (IntKind.wrap IntKind.i64 (Int.tdiv c a) < b))
  (VC.ret (some (RR.c (Rc.d (D.int IntKind.i64 (IntKind.wrap IntKind.i64 (c + (1 : Int))))))))
  (VC.ret (some (RR.c (Rc.d (D.int IntKind.i64 (IntKind.wrap IntKind.i64 (a * b)))))))))
 (VC.ret (some (RR.c (Rc.d (D.int IntKind.i64 (IntKind.wrap IntKind.i64 (a * b)))))))) := by kernel_rfl
theorem c_rTimes_good : c_rTimes.fe.Good Try.prog := by
  refine FT.good c_rTimes ⟨Try.f97, by kernel_rfl, by decide +kernel, by kernel_rfl⟩ (fun ⟨a, b, c⟩ => by first | rfl | simp [c_rTimes, rrRef, rint, rpair, rsplit, rnewI, rnewE, rstab, rplaces, ri, rb, rib, rnum, rby, rss, Sta.fresh]) fun ⟨a, b, c⟩ hp => ?_
  refine acalls_le s_rTimes_sound (fn := Try.f97) (a := a_rTimes) (nargs := 3) (tbl := [(7, [3, 4, 6, 7])]) (by kernel_rfl) (by kernel_rfl) rfl (m := 400) ?_
  show VC.holds _ _ _ (a_rTimes.start s_rTimes 400 [ai a, ai b, ai c])
  rw [t_rTimes]
  try simp only [asRows_sl, asInt_int, asBool_bool, asStr_str, listOf_rowsOn, List.drop_zero, Prg.eta, Sta.eta, rowsOn_length, getD_drop, Nat.reduceAdd, rd_int, rd_PMem_name, rd_PMem_secret, rd_PMem_n, rd_PLabel_name, rd_PLabel_at_, rd_Ins_kind, rd_Ins_op, rd_Ins_d, rd_Ins_aR, rd_Ins_aN, rd_Ins_bR, rd_Ins_bN, rd_Ins_name, rd_Ins_target, rd_Ent_pc, rd_Ent_val, rd_Ent_addr, rd_Ent_fro, rd_Ent_next, rd_Ent_done, rd_Ent_known, rd_Ent_fault, rd_Place_reg, rd_Place_n, rd_Place_secret, rd_Obs_kind, rd_Obs_at_, rd_Dir_kind, rd_Dir_n, Prg.of_cells, Sta.of_cells]
  try simp only [c_rTimes] at hp
  obtain ⟨hc, h1, h2, h3, h4⟩ := hp
  dsimp only [greatS] at hc h2
  subst hc
  have e : c_rTimes.ans (a, b, 1099511627776) = ri (min (a * b) 1099511627777) := rfl
  rw [e]
  have hab : 0 ≤ a * b := Int.mul_nonneg h1 h3
  refine br_dec (fun hpos => ?_) (fun hpos => ?_)
  · have hX : Int.tdiv 1099511627776 a = 1099511627776 / a := Int.tdiv_eq_ediv_of_nonneg (by omega)
    have hb : 0 ≤ 1099511627776 / a := Int.ediv_nonneg (by omega) h1
    have hc : 1099511627776 / a ≤ 1099511627776 := Int.ediv_le_self _ (by omega)
    rw [hX, wrap_small (1099511627776 / a) (by omega) (by omega)]
    have key : 1099511627776 / a < b ↔ 1099511627776 < b * a := Int.ediv_lt_iff_lt_mul hpos
    rw [Int.mul_comm b a] at key
    refine ⟨by omega, br_dec (fun h => ret_le (RR.le_of_eq ?_)) (fun h => ret_le (RR.le_of_eq ?_))⟩
    · rw [show min (a * b) 1099511627777 = 1099511627777 by omega]; rfl
    · rw [wrap_small (a * b) (by omega) (by omega), show min (a * b) 1099511627777 = a * b by omega]; rfl
  · have : a = 0 := by omega
    subst this
    refine ret_le (RR.le_of_eq ?_)
    rw [Int.zero_mul, wrap_small 0 (by omega) (by omega)]; rfl
noncomputable def v_rTimes : Int × Int × Int → Int := fun x => min (x.1 * x.2.1) (greatS + 1)
noncomputable def sh_rTimes : Int → RR := fun y => ri y
theorem e_rTimes (x : Int × Int × Int) : sh_rTimes (v_rTimes x) = c_rTimes.ans x := rfl
def gpS (p : Prg) (n : Nat) : Int := min (sizeS p.w ^ n) (greatS + 1)
def rii (x : Int × Int) : RR := .tup [.inl (.d (.int .i64 x.1)), .inl (.d (.int .i64 x.2))]
def c_sizes : FT (Prg × Int) := ⟨96, fun x => [ap x.1, ai x.2], rdPIq, fun x => okW x.1.w ∧ Mems x.1.mems ∧ x.2 = greatS, fun x => rii (gpS x.1 (openS x.1).length, gpS x.1 (secS x.1).length), false, fun x => by simp [ap, ai, rdPIq]⟩
noncomputable def a_sizes : FnA := (fnA Try.prog Try.f96 2 [(4, [1, 2, 6, 7, 8, 9, 1000008000000900001003])]).getD ⟨0, .skip, [], []⟩
noncomputable def s_sizes : Sp := spT [c_rPlaces.gfe v_rPlaces sh_rPlaces e_rPlaces, c_rTimes.gfe v_rTimes sh_rTimes e_rTimes, c_rSize.fe]
theorem s_sizes_sound : s_sizes.sound Try.prog := spT_sound fun e he => by
  simp only [List.mem_cons, List.not_mem_nil, or_false] at he
  rcases he with rfl | rfl | rfl
  · exact FT.gfe_good c_rPlaces_good
  · exact FT.gfe_good c_rTimes_good
  · exact c_rSize_good
def F_sizes (p : Prg) (most pub sec : Int) (q : List Place) (i : Int) : St := ⟨mkS 37 [(1, vi most), (2, vp 128), (6, vi pub), (7, vi sec), (8, vo 900001 (rowsOn q).length), (9, vi i)], [(128, bx p.cells), (900001, ba 3 (rowsOn q))]⟩
set_option maxRecDepth 100000 in
theorem t_sizes (p : Prg) (most : Int) : a_sizes.start s_sizes 400 [ap p, ai most] =
(VC.need (PreOk c_rPlaces p [A.agg (Prg.cells p)])
(VC.all (v_rPlaces { w := p.w, window := p.window, fuel := p.fuel, r0 := p.r0, r1 := p.r1, r2 := p.r2, r3 := p.r3, mems := listOf PMem (rowsOn p.mems), labels := listOf PLabel (rowsOn p.labels), ins := listOf Ins (rowsOn p.ins) }) fun (y2 : List Place) =>
(FnA.at_ a_sizes 0 (F_sizes p most (1 : Int) (1 : Int) y2 (0 : Int))))) := by kernel_rfl
set_option maxRecDepth 100000 in
theorem t_sizes0 (p : Prg) (most pub sec : Int) (q : List Place) (i : Int) : a_sizes.round s_sizes 400 0 (F_sizes p most pub sec q i) =
(VC.br (decide (i < (↑(List.length (rowsOn q)) : Int)))
 (VC.need ((0 : Int) ≤ i ∧ i < (↑(List.length (rowsOn q)) : Int))
 (VC.need (Int.toNat i < List.length (rowsOn q) ∧ List.length (rowAt (rowsOn q) (Int.toNat i)) = (3 : Nat) ∧ okSh [Kd.bool] (List.drop (2 : Nat) (rowAt (rowsOn q) (Int.toNat i))))
 (VC.br (asBool (List.getD (List.drop (2 : Nat) (rowAt (rowsOn q) (Int.toNat i))) (0 : Nat) D.nilp))
  (VC.need (PreOk c_rSize p.w [A.c (D.int IntKind.i64 p.w)])
  (VC.need (PreOk c_rTimes (sec, sizeS p.w, most) [A.c (D.int IntKind.i64 sec), A.c (D.int IntKind.i64 (sizeS p.w)), A.c (D.int IntKind.i64 most)])
  (VC.all (v_rTimes (sec, sizeS p.w, most)) fun (y6 : Int) =>
  (FnA.at_ a_sizes 0 (F_sizes p most pub y6 q (IntKind.wrap IntKind.i64 (i + (1 : Int))))))))
  (VC.need (PreOk c_rSize p.w [A.c (D.int IntKind.i64 p.w)])
  (VC.need (PreOk c_rTimes (pub, sizeS p.w, most) [A.c (D.int IntKind.i64 pub), A.c (D.int IntKind.i64 (sizeS p.w)), A.c (D.int IntKind.i64 most)])
  (VC.all (v_rTimes (pub, sizeS p.w, most)) fun (y6 : Int) =>
  (FnA.at_ a_sizes 0 (F_sizes p most y6 sec q (IntKind.wrap IntKind.i64 (i + (1 : Int)))))))))))
 (VC.ret (some (RR.tup [Sum.inl (Rc.d (D.int IntKind.i64 pub)), Sum.inl (Rc.d (D.int IntKind.i64 sec))])))) := by kernel_rfl
theorem gpS_succ {p : Prg} (h : okW p.w) (n : Nat) : min (gpS p n * sizeS p.w) (greatS + 1) = gpS p (n + 1) := by
  have h1 := size_pos h
  have hx : 0 < sizeS p.w ^ n := Int.pow_pos (by omega)
  unfold gpS
  rw [Int.pow_succ]
  generalize sizeS p.w ^ n = x at *
  generalize sizeS p.w = S at *
  by_cases hf : x ≤ greatS + 1
  · rw [show min x (greatS + 1) = x by omega]
  · have a1 : (greatS + 1) * 1 ≤ (greatS + 1) * S := Int.mul_le_mul_of_nonneg_left (by omega) (by decide)
    have a2 : (greatS + 1) * S ≤ x * S := Int.mul_le_mul_of_nonneg_right (by omega) (by omega)
    rw [show min x (greatS + 1) = greatS + 1 by omega]
    omega
theorem gpS_zero (p : Prg) : gpS p 0 = 1 := by unfold gpS; rw [Int.pow_zero]; decide
theorem gpS_pos {p : Prg} (h : okW p.w) (n : Nat) : 1 ≤ gpS p n ∧ gpS p n ≤ greatS + 1 := by
  have : 0 < sizeS p.w ^ n := Int.pow_pos (by have := size_pos h; omega)
  unfold gpS greatS
  omega
theorem placeS_ok (x : List Place) (n : Int) (h0 : 0 ≤ n) (h : n < x.length) : n.toNat < x.length ∧ (rowAt (rowsOn x) n.toNat).length = 3 ∧ okSh [Kd.bool] (List.drop 2 (rowAt (rowsOn x) n.toNat)) :=
  ⟨by omega, by rw [rowAt_on x n h0 h]; rfl, by rw [rowAt_on x n h0 h]; rfl⟩
theorem l_sizes0 (p : Prg) (q : List Place) (hw : okW p.w) (hl : q.length ≤ 10000) : ∀ i_ : Int × Int × Int, (fun (i : Int × Int × Int) => 0 ≤ i.1 ∧ i.1 ≤ q.length ∧ i.2.1 = gpS p (idxW false (q.take i.1.toNat) 0).length ∧ i.2.2 = gpS p (idxW true (q.take i.1.toNat) 0).length) i_ → (a_sizes.at_ 0 ((fun (i : Int × Int × Int) => F_sizes p greatS i.2.1 i.2.2 q i.1) i_)).holds s_sizes.cx a_sizes.rs (fun r => r.le (rii (gpS p (idxW false q 0).length, gpS p (idxW true q 0).length))) := by
  refine loop_rule (a := a_sizes) (j := 0) (m := 400) s_sizes_sound (fun (i : Int × Int × Int) => F_sizes p greatS i.2.1 i.2.2 q i.1) (fun (i : Int × Int × Int) => 0 ≤ i.1 ∧ i.1 ≤ q.length ∧ i.2.1 = gpS p (idxW false (q.take i.1.toNat) 0).length ∧ i.2.2 = gpS p (idxW true (q.take i.1.toNat) 0).length) (fun (i : Int × Int × Int) => ((q.length : Int) - i.1).toNat) ?_
  rintro ⟨i, pub, sec⟩ h_inv ih
  try dsimp only at h_inv
  replace ih := fun (v0 : Int) (v1 : Int) (v2 : Int) => ih (v0, v1, v2)
  try dsimp only at ih
  show VC.holds _ _ _ (a_sizes.round s_sizes 400 0 (F_sizes p greatS pub sec q i))
  rw [t_sizes0]
  try simp only [asRows_sl, asInt_int, asBool_bool, asStr_str, listOf_rowsOn, List.drop_zero, Prg.eta, Sta.eta, rowsOn_length, getD_drop, Nat.reduceAdd, rd_int, rd_PMem_name, rd_PMem_secret, rd_PMem_n, rd_PLabel_name, rd_PLabel_at_, rd_Ins_kind, rd_Ins_op, rd_Ins_d, rd_Ins_aR, rd_Ins_aN, rd_Ins_bR, rd_Ins_bN, rd_Ins_name, rd_Ins_target, rd_Ent_pc, rd_Ent_val, rd_Ent_addr, rd_Ent_fro, rd_Ent_next, rd_Ent_done, rd_Ent_known, rd_Ent_fault, rd_Place_reg, rd_Place_n, rd_Place_secret, rd_Obs_kind, rd_Obs_at_, rd_Dir_kind, rd_Dir_n, Prg.of_cells, Sta.of_cells]
  obtain ⟨h0, h1, h2, h3⟩ := h_inv
  have w1 : IntKind.wrap .i64 (i + 1) = i + 1 := wrap_small _ (by omega) (by omega)
  simp only [w1]
  have en : (i + 1).toNat = i.toNat + 1 := by omega
  have b0 := gpS_pos hw (idxW false (q.take i.toNat) 0).length
  have b1 := gpS_pos hw (idxW true (q.take i.toNat) 0).length
  rw [← h2] at b0
  rw [← h3] at b1
  have hs := size_pos hw
  refine br_dec (fun hd => ?_) (fun hd => ?_)
  · have ht := fun b => idxW_take b q i.toNat (by omega)
    have hx := rd_getN q i h0 hd
    rw [← hx] at ht
    refine ⟨⟨h0, hd⟩, placeS_ok q i h0 hd, br_holds (fun hb => ?_) (fun hb => ?_)⟩
    · refine ⟨PreOk.mk trivial rfl, PreOk.mk ⟨rfl, by dsimp only; omega, by dsimp only; omega, by dsimp only; omega, by dsimp only; omega⟩ rfl, all_holds fun y hy => ?_⟩
      refine ih _ _ _ ⟨by omega, by omega, ?_, ?_⟩ (by omega)
      · rw [en, ht false, if_neg (by rw [hb]; decide), List.append_nil]; exact h2
      · rw [en, ht true, if_pos hb, List.length_append, hy]
        show min (sec * sizeS p.w) (greatS + 1) = _
        rw [h3]; exact gpS_succ hw _
    · refine ⟨PreOk.mk trivial rfl, PreOk.mk ⟨rfl, by dsimp only; omega, by dsimp only; omega, by dsimp only; omega, by dsimp only; omega⟩ rfl, all_holds fun y hy => ?_⟩
      refine ih _ _ _ ⟨by omega, by omega, ?_, ?_⟩ (by omega)
      · rw [en, ht false, if_pos hb, List.length_append, hy]
        show min (pub * sizeS p.w) (greatS + 1) = _
        rw [h2]; exact gpS_succ hw _
      · rw [en, ht true, if_neg (by rw [hb]; decide), List.append_nil]; exact h3
  · have hi : i.toNat = q.length := by omega
    rw [hi, List.take_length] at h2 h3
    refine ret_le ?_
    rw [h2, h3]
    exact RR.le_refl _
theorem c_sizes_good : c_sizes.fe.Good Try.prog := by
  refine FT.good c_sizes ⟨Try.f96, by kernel_rfl, by decide +kernel, by kernel_rfl⟩ (fun ⟨p, most⟩ => by first | rfl | simp [c_sizes, rrRef, rint, rpair, rsplit, rnewI, rnewE, rstab, rplaces, ri, rb, rib, rnum, rby, rss, rii, Sta.fresh]) fun ⟨p, most⟩ hp => ?_
  refine acalls_le s_sizes_sound (fn := Try.f96) (a := a_sizes) (nargs := 2) (tbl := [(4, [1, 2, 6, 7, 8, 9, 1000008000000900001003])]) (by kernel_rfl) (by kernel_rfl) rfl (m := 400) ?_
  show VC.holds _ _ _ (a_sizes.start s_sizes 400 [ap p, ai most])
  rw [t_sizes]
  try simp only [asRows_sl, asInt_int, asBool_bool, asStr_str, listOf_rowsOn, List.drop_zero, Prg.eta, Sta.eta, rowsOn_length, getD_drop, Nat.reduceAdd, rd_int, rd_PMem_name, rd_PMem_secret, rd_PMem_n, rd_PLabel_name, rd_PLabel_at_, rd_Ins_kind, rd_Ins_op, rd_Ins_d, rd_Ins_aR, rd_Ins_aN, rd_Ins_bR, rd_Ins_bN, rd_Ins_name, rd_Ins_target, rd_Ent_pc, rd_Ent_val, rd_Ent_addr, rd_Ent_fro, rd_Ent_next, rd_Ent_done, rd_Ent_known, rd_Ent_fault, rd_Place_reg, rd_Place_n, rd_Place_secret, rd_Obs_kind, rd_Obs_at_, rd_Dir_kind, rd_Dir_n, Prg.of_cells, Sta.of_cells]
  try simp only [c_sizes] at hp
  obtain ⟨hw, hm, hg⟩ := hp
  have hg : most = greatS := hg
  have hm : Mems p.mems := hm
  subst hg
  have hl := places_len p hm
  refine ⟨PreOk.mk hm rfl, all_holds fun y hy => ?_⟩
  replace hy : y = placesS p := by rw [hy]; simp [v_rPlaces]
  subst hy
  exact l_sizes0 p (placesS p) hw (by omega) (0, 1, 1) ⟨by omega, by dsimp only; omega, (gpS_zero p).symm, (gpS_zero p).symm⟩
noncomputable def v_sizes : Prg × Int → Int × Int := fun x => (gpS x.1 (openS x.1).length, gpS x.1 (secS x.1).length)
noncomputable def sh_sizes : Int × Int → RR := fun y => rii y
theorem e_sizes (x : Prg × Int) : sh_sizes (v_sizes x) = c_sizes.ans x := rfl
def c_rCount : FT (Prg × Int) := ⟨51, fun x => [ap x.1, ai x.2], rdPIq, fun x => okW x.1.w ∧ Mems x.1.mems, fun x => rib (countS x.1 x.2), false, fun x => by simp [ap, ai, rdPIq]⟩
noncomputable def a_rCount : FnA := (fnA Try.prog Try.f51 2 []).getD ⟨0, .skip, [], []⟩
noncomputable def s_rCount : Sp := spT [c_sizes.gfe v_sizes sh_sizes e_sizes, c_rTimes.gfe v_rTimes sh_rTimes e_rTimes]
theorem s_rCount_sound : s_rCount.sound Try.prog := spT_sound fun e he => by
  simp only [List.mem_cons, List.not_mem_nil, or_false] at he
  rcases he with rfl | rfl
  · exact FT.gfe_good c_sizes_good
  · exact FT.gfe_good c_rTimes_good
set_option maxRecDepth 100000 in
theorem t_rCount (p : Prg) (most : Int) : a_rCount.start s_rCount 400 [ap p, ai most] =
(VC.need (PreOk c_sizes (Prg.of (Prg.cells p), (1099511627776 : Int)) [A.agg (Prg.cells p), A.c (D.int IntKind.i64 (1099511627776 : Int))])
(VC.all ((gpS (Prg.of (Prg.cells p)) (List.length (openS (Prg.of (Prg.cells p)))), gpS (Prg.of (Prg.cells p)) (List.length (secS (Prg.of (Prg.cells p)))))) fun (y2 : Int × Int) =>
(VC.br (decide (y2.snd < (2 : Int)))
 (VC.ret (some (RR.tup [Sum.inl (Rc.d (D.int IntKind.i64 (0 : Int))), Sum.inl (Rc.d (D.bool true))])))
 (VC.br (decide (y2.snd < (2097152 : Int)))
  (VC.need ((2 : Int) ≠ (0 : Int))
  (VC.need (PreOk c_rTimes (y2.fst, IntKind.wrap IntKind.i64 (Int.tdiv (IntKind.wrap IntKind.i64 (y2.snd * IntKind.wrap IntKind.i64 (y2.snd - (1 : Int)))) (2 : Int)), (1099511627776 : Int)) [A.c (D.int IntKind.i64 y2.fst), A.c (D.int IntKind.i64 (IntKind.wrap IntKind.i64 (Int.tdiv (IntKind.wrap IntKind.i64 (y2.snd * IntKind.wrap IntKind.i64 (y2.snd - (1 : Int)))) (2 : Int)))), A.c (D.int IntKind.i64 (1099511627776 : Int))])
  (VC.all (v_rTimes (y2.fst, IntKind.wrap IntKind.i64 (Int.tdiv (IntKind.wrap IntKind.i64 (y2.snd * IntKind.wrap IntKind.i64 (y2.snd - (1 : Int)))) (2 : Int)), (1099511627776 : Int))) fun (y3 : Int) =>
  (VC.br (decide (min (max most (0 : Int)) (1000000 : Int) < y3))
   (VC.ret (some (RR.tup [Sum.inl (Rc.d (D.int IntKind.i64 (0 : Int))), Sum.inl (Rc.d (D.bool false))])))
   (VC.ret (some (RR.tup [Sum.inl (Rc.d (D.int IntKind.i64 y3)), Sum.inl (Rc.d (D.bool true))])))))))
  (VC.br (decide (min (max most (0 : Int)) (1000000 : Int) < (1099511627777 : Int)))
   (VC.ret (some (RR.tup [Sum.inl (Rc.d (D.int IntKind.i64 (0 : Int))), Sum.inl (Rc.d (D.bool false))])))
   (VC.ret (some (RR.tup [Sum.inl (Rc.d (D.int IntKind.i64 (1099511627777 : Int))), Sum.inl (Rc.d (D.bool true))])))))))) := by kernel_rfl
theorem far_mul {a b : Int} (ha : farS ≤ a) (hb : 1 ≤ b) : farS ≤ a * b := by
  have h1 : farS * 1 ≤ farS * b := Int.mul_le_mul_of_nonneg_left hb (by decide)
  have h2 : farS * b ≤ a * b := Int.mul_le_mul_of_nonneg_right ha (by omega)
  omega
/-- The document's count is the program's. -/
theorem count_ref {p : Prg} (hw : okW p.w) (M : Int) (hM0 : 0 ≤ M) (hM : M ≤ 1000000) :
    (gpS p (secS p).length < 2 → cntS p = 0) ∧
    (2 ≤ gpS p (secS p).length → gpS p (secS p).length < 2097152 → (M < min (gpS p (openS p).length * (gpS p (secS p).length * (gpS p (secS p).length - 1) / 2)) (greatS + 1) ↔ M < cntS p) ∧ (¬ M < cntS p → min (gpS p (openS p).length * (gpS p (secS p).length * (gpS p (secS p).length - 1) / 2)) (greatS + 1) = cntS p)) ∧
    (2097152 ≤ gpS p (secS p).length → M < cntS p) := by
  have hs := size_pos hw
  have hX : 0 < sizeS p.w ^ (secS p).length := Int.pow_pos (by omega)
  have hY : 0 < sizeS p.w ^ (openS p).length := Int.pow_pos (by omega)
  unfold cntS twoS powS gpS
  generalize sizeS p.w ^ (secS p).length = X at *
  generalize sizeS p.w ^ (openS p).length = Y at *
  refine ⟨fun h => ?_, fun h1 h2 => ?_, fun h => ?_⟩
  · have : X = 1 := by unfold greatS at h; omega
    subst this
    unfold farS
    rw [show (min 1 1073741824 : Int) = 1 by decide, show (min (1 * (1 - 1) / 2) 1073741824 : Int) = 0 by decide, Int.mul_zero]
    decide
  · have eX : min X (greatS + 1) = X := by unfold greatS at h1 h2 ⊢; omega
    have eA : min X farS = X := by unfold greatS at h1 h2; unfold farS; omega
    rw [eX] at h1 h2 ⊢
    rw [eA]
    have ht : 1 ≤ X * (X - 1) / 2 := by
      have := tri_mono (show (1 : Int) ≤ 2 by decide) h1
      omega
    generalize X * (X - 1) / 2 = T at *
    by_cases hYf : Y ≤ farS
    · have e1 : min Y (greatS + 1) = Y := by unfold greatS farS at *; omega
      have e2 : min Y farS = Y := by omega
      rw [e1, e2]
      by_cases hTf : T ≤ farS
      · rw [show min T farS = T by omega]
        unfold greatS farS at *
        constructor <;> omega
      · rw [show min T farS = farS by omega]
        have g1 := far_mul (a := farS) (b := Y) (Int.le_refl _) (by omega)
        have g2 := far_mul (a := T) (b := Y) (by omega) (by omega)
        rw [Int.mul_comm] at g1 g2
        unfold greatS farS at *
        constructor <;> omega
    · rw [show min Y farS = farS by omega]
      have g1 := far_mul (a := farS) (b := min T farS) (Int.le_refl _) (by unfold farS; omega)
      have g2 := far_mul (a := min Y (greatS + 1)) (b := T) (by unfold greatS farS at *; omega) ht
      unfold greatS farS at *
      constructor <;> omega
  · have hA : 2097152 ≤ min X farS := by unfold greatS at h; unfold farS; omega
    have ht := tri_mono (show (1 : Int) ≤ 2097152 by decide) hA
    have hE : min (min X farS * (min X farS - 1) / 2) farS = farS := by unfold farS at *; omega
    rw [hE]
    have g1 := far_mul (a := farS) (b := min Y farS) (Int.le_refl _) (by unfold farS; omega)
    rw [Int.mul_comm] at g1
    unfold farS at *
    omega
theorem c_rCount_good : c_rCount.fe.Good Try.prog := by
  refine FT.good c_rCount ⟨Try.f51, by kernel_rfl, by decide +kernel, by kernel_rfl⟩ (fun ⟨p, most⟩ => by first | rfl | simp [c_rCount, rrRef, rint, rpair, rsplit, rnewI, rnewE, rstab, rplaces, ri, rb, rib, rnum, rby, rss, rii, Sta.fresh]) fun ⟨p, most⟩ hp => ?_
  refine acalls_le s_rCount_sound (fn := Try.f51) (a := a_rCount) (nargs := 2) (tbl := []) (by kernel_rfl) (by kernel_rfl) rfl (m := 400) ?_
  show VC.holds _ _ _ (a_rCount.start s_rCount 400 [ap p, ai most])
  rw [t_rCount]
  try simp only [asRows_sl, asInt_int, asBool_bool, asStr_str, listOf_rowsOn, List.drop_zero, Prg.eta, Sta.eta, rowsOn_length, getD_drop, Nat.reduceAdd, rd_int, rd_PMem_name, rd_PMem_secret, rd_PMem_n, rd_PLabel_name, rd_PLabel_at_, rd_Ins_kind, rd_Ins_op, rd_Ins_d, rd_Ins_aR, rd_Ins_aN, rd_Ins_bR, rd_Ins_bN, rd_Ins_name, rd_Ins_target, rd_Ent_pc, rd_Ent_val, rd_Ent_addr, rd_Ent_fro, rd_Ent_next, rd_Ent_done, rd_Ent_known, rd_Ent_fault, rd_Place_reg, rd_Place_n, rd_Place_secret, rd_Obs_kind, rd_Obs_at_, rd_Dir_kind, rd_Dir_n, Prg.of_cells, Sta.of_cells]
  try simp only [c_rCount] at hp
  obtain ⟨hw, hm⟩ := hp
  have e : c_rCount.ans (p, most) = rib (countS p most) := rfl
  rw [e]
  have b0 := gpS_pos hw (openS p).length
  have b1 := gpS_pos hw (secS p).length
  obtain ⟨k1, k2, k3⟩ := count_ref hw (min (max most 0) 1000000) (by omega) (by omega)
  refine ⟨PreOk.mk ⟨hw, hm, rfl⟩ rfl, all_holds fun y hy => ?_⟩
  replace hy : y = (gpS p (openS p).length, gpS p (secS p).length) := by rw [hy]
  subst hy
  dsimp only at *
  generalize gpS p (openS p).length = P at *
  generalize gpS p (secS p).length = X at *
  unfold countS
  refine br_dec (fun h => ?_) (fun h => br_dec (fun h2 => ?_) (fun h2 => ?_))
  · rw [k1 h, if_neg (by omega)]; exact ret_le (RR.le_refl _)
  · obtain ⟨j1, j2⟩ := k2 (by omega) h2
    have hx := tri_mono (show 1 ≤ X by omega) (show X ≤ 2097152 by omega)
    have hx0 := tri_pos (show 1 ≤ X by omega)
    rw [wrap_small (X - 1) (by omega) (by omega), wrap_small (X * (X - 1)) (by omega) (by omega), Int.tdiv_eq_ediv_of_nonneg hx0, wrap_small (X * (X - 1) / 2) (by omega) (by omega)]
    refine ⟨by decide, PreOk.mk ⟨rfl, by dsimp only; omega, by dsimp only; omega, by dsimp only; omega, by dsimp only; omega⟩ rfl, all_holds fun z hz => ?_⟩
    replace hz : z = min (P * (X * (X - 1) / 2)) (greatS + 1) := hz
    rw [← hz] at j1 j2
    refine br_dec (fun h3 => ?_) (fun h3 => ?_)
    · rw [if_pos (j1.1 h3)]; exact ret_le (RR.le_refl _)
    · have h4 : ¬ min (max most 0) 1000000 < cntS p := fun q => h3 (j1.2 q)
      rw [if_neg h4, ← j2 h4]; exact ret_le (RR.le_refl _)
  · rw [if_pos (k3 (by omega))]
    exact br_dec (fun _ => ret_le (RR.le_refl _)) (fun q => by omega)
noncomputable def v_rCount : Prg × Int → Int × Bool := fun x => countS x.1 x.2
noncomputable def sh_rCount : Int × Bool → RR := fun y => rib y
theorem e_rCount (x : Prg × Int) : sh_rCount (v_rCount x) = c_rCount.ans x := rfl
def rdPII : List A → Prg × Int × Int
  | [.agg l, .c (.int _ i), .c (.int _ j)] => (Prg.of l, i, j)
  | _ => default
def c_rhold : FT (Prg × Int × Int) := ⟨98, fun x => [ap x.1, ai x.2.1, ai x.2.2], rdPII, fun x => okW x.1.w ∧ Mems x.1.mems ∧ 0 ≤ x.2.1 ∧ x.2.1 ≤ 1000000000 ∧ 0 ≤ x.2.2 ∧ x.2.2 ≤ 1000000000, fun x => .agg (startS x.1 (rowP x.1 x.2.1 x.2.2)).1.fresh, false, fun x => by simp [ap, ai, rdPII]⟩
noncomputable def v_rStart : Prg × List Int → Sta × Bool := fun x => startS x.1 x.2
noncomputable def sh_rStart : Sta × Bool → RR := fun y => rstab y
theorem e_rStart (x : Prg × List Int) : sh_rStart (v_rStart x) = c_rStart.ans x := rfl
noncomputable def a_rhold : FnA := (fnA Try.prog Try.f98 3 [(5, [1, 2, 3, 6, 7, 8, 9, 10, 1000007000000900001003, 1000008000000900002001])]).getD ⟨0, .skip, [], []⟩
noncomputable def s_rhold : Sp := spT [c_rPlaces.gfe v_rPlaces sh_rPlaces e_rPlaces, c_rSize.fe, c_rStart.gfe v_rStart sh_rStart e_rStart]
theorem s_rhold_sound : s_rhold.sound Try.prog := spT_sound fun e he => by
  simp only [List.mem_cons, List.not_mem_nil, or_false] at he
  rcases he with rfl | rfl | rfl
  · exact FT.gfe_good c_rPlaces_good
  · exact c_rSize_good
  · exact FT.gfe_good c_rStart_good
def zb2 : Blk := bc [.d (.int .i64 0), .d (.int .i64 0), .d (.int .i64 0), .d (.int .i64 0), .nil, .nil, .d (.int .i64 0)]
def F_rh (p : Prg) (S u o : Int) (q : List Place) (n : Nat) (X : List (List D)) (i : Int) : St := ⟨mkS 58 [(1, vi u), (2, vi o), (3, vp 192), (6, vp 384), (7, vo 900001 (rowsOn q).length), (8, vo 900002 n), (9, vi S), (10, vi i)], [(192, bx p.cells), (384, zb2), (900001, ba 3 (rowsOn q)), (900002, ba 1 X)]⟩
set_option maxRecDepth 100000 in
theorem t_rhold (p : Prg) (u o : Int) : a_rhold.start s_rhold 400 [ap p, ai u, ai o] =
(VC.need (PreOk c_rPlaces p [A.agg (Prg.cells p)])
(VC.all (v_rPlaces { w := p.w, window := p.window, fuel := p.fuel, r0 := p.r0, r1 := p.r1, r2 := p.r2, r3 := p.r3, mems := listOf PMem (rowsOn p.mems), labels := listOf PLabel (rowsOn p.labels), ins := listOf Ins (rowsOn p.ins) }) fun (y3 : List Place) =>
(VC.need ((↑(List.length (rowsOn y3)) : Int) = (↑(List.length (rowsOn y3)) : Int) ∧ (0 : Int) ≤ (↑(List.length (rowsOn y3)) : Int) ∧ (9 : Int) * (↑(List.length (rowsOn y3)) : Int) ≤ (140737488355328 : Int))
(VC.need (PreOk c_rSize p.w [A.c (D.int IntKind.i64 p.w)])
(FnA.at_ a_rhold 0 (F_rh p (sizeS p.w) u o y3 (Int.toNat (↑(List.length (rowsOn y3)) : Int)) (List.replicate (Int.toNat (↑(List.length (rowsOn y3)) : Int)) [D.int IntKind.i64 (0 : Int)]) (IntKind.wrap IntKind.i64 ((↑(List.length (rowsOn y3)) : Int) - (1 : Int))))))))) := by kernel_rfl
set_option maxRecDepth 100000 in
theorem t_rhold0 (p : Prg) (S u o : Int) (q : List Place) (n : Nat) (X : List (List D)) (i : Int) : a_rhold.round s_rhold 400 0 (F_rh p S u o q n X i) =
(VC.br (decide ((0 : Int) ≤ i))
 (VC.need ((0 : Int) ≤ i ∧ i < (↑(List.length (rowsOn q)) : Int))
 (VC.need (Int.toNat i < List.length (rowsOn q) ∧ List.length (rowAt (rowsOn q) (Int.toNat i)) = (3 : Nat) ∧ okSh [Kd.bool] (List.drop (2 : Nat) (rowAt (rowsOn q) (Int.toNat i))))
 (VC.br (asBool (List.getD (List.drop (2 : Nat) (rowAt (rowsOn q) (Int.toNat i))) (0 : Nat) D.nilp))
  (VC.need (S ≠ (0 : Int))
  (VC.need (S ≠ (0 : Int))
  (VC.need ((0 : Int) ≤ i ∧ i < (↑n : Int))
  (VC.need (Int.toNat i < List.length X ∧ List.length (rowAt X (Int.toNat i)) = (1 : Nat) ∧ (1 : Nat) ≤ (1 : Nat))
  (FnA.at_ a_rhold 0 (F_rh p S u (IntKind.wrap IntKind.i64 (Int.tdiv o S)) q n (List.set X (Int.toNat i) (splice (rowAt X (Int.toNat i)) (0 : Nat) [D.int IntKind.i64 (Int.tmod o S)])) (IntKind.wrap IntKind.i64 (i - (1 : Int)))))))))
  (VC.need (S ≠ (0 : Int))
  (VC.need (S ≠ (0 : Int))
  (VC.need ((0 : Int) ≤ i ∧ i < (↑n : Int))
  (VC.need (Int.toNat i < List.length X ∧ List.length (rowAt X (Int.toNat i)) = (1 : Nat) ∧ (1 : Nat) ≤ (1 : Nat))
  (FnA.at_ a_rhold 0 (F_rh p S (IntKind.wrap IntKind.i64 (Int.tdiv u S)) o q n (List.set X (Int.toNat i) (splice (rowAt X (Int.toNat i)) (0 : Nat) [D.int IntKind.i64 (Int.tmod u S)])) (IntKind.wrap IntKind.i64 (i - (1 : Int))))))))))))
 (VC.need (PreOk c_rStart (Prg.of (Prg.cells p), listOf Int X) [A.agg (Prg.cells p), A.c (D.sl X)])
 (VC.all (v_rStart (Prg.of (Prg.cells p), listOf Int X)) fun (y8 : Sta × Bool) =>
 (VC.ret (some (RR.agg [Rc.d (D.int IntKind.i64 y8.fst.r0), Rc.d (D.int IntKind.i64 y8.fst.r1), Rc.d (D.int IntKind.i64 y8.fst.r2), Rc.d (D.int IntKind.i64 y8.fst.r3), Rc.new (1 : Nat) (rowsOn y8.fst.mem), Rc.new (1 : Nat) (rowsOn y8.fst.stack), Rc.d (D.int IntKind.i64 y8.fst.pc)])))))) := by kernel_rfl
/-! the document's filling -/
def rhF (S : Int) (q : List Place) : Nat → Int → Int → List Int → List Int
  | 0, _, _, l => l
  | k + 1, u, o, l => if (rd q (k : Int)).secret = true then rhF S q k u (o / S) (l.set k (o % S)) else rhF S q k (u / S) o (l.set k (u % S))
def cntW (b : Bool) (q : List Place) (k : Nat) : Nat := (idxW b (q.take k) 0).length
theorem cntW_succ (b : Bool) (q : List Place) (k : Nat) (h : k < q.length) : cntW b q (k + 1) = cntW b q k + if q[k].secret = b then 1 else 0 := by
  unfold cntW
  rw [idxW_take b q k h, List.length_append]
  split <;> rfl
theorem cntW_mono (b : Bool) (q : List Place) {j k : Nat} (h : j ≤ k) : cntW b q j ≤ cntW b q k := by
  have e : q.take k = q.take j ++ (q.take k).drop j := by
    have := List.take_append_drop j (q.take k)
    rw [List.take_take, Nat.min_eq_left h] at this
    exact this.symm
  unfold cntW
  rw [e, idxW_app, List.length_append]
  omega
theorem cntW_rd (b : Bool) (q : List Place) (j : Nat) (h : j < q.length) (hb : q[j].secret = b) : cntW b q j < (idxW b q 0).length ∧ rd (idxW b q 0) (cntW b q j : Int) = j := by
  have e : idxW b q 0 = idxW b (q.take (j + 1)) 0 ++ idxW b (q.drop (j + 1)) (0 + ((q.take (j + 1)).length : Int)) := by
    rw [← idxW_app, List.take_append_drop]
  rw [idxW_take b q j h, if_pos hb] at e
  have hlt : cntW b q j < (idxW b q 0).length := by
    rw [e]; unfold cntW; simp only [List.length_append, List.length_cons, List.length_nil]; omega
  refine ⟨hlt, ?_⟩
  rw [rd_getD, e, List.append_assoc]
  unfold cntW
  rw [List.getD_eq_getElem?_getD, List.getElem?_append_right (Nat.le_refl _)]
  simp
theorem rhF_get (S : Int) (hS : 0 < S) (q : List Place) : ∀ (k : Nat) (u o : Int) (l : List Int), k ≤ q.length → l.length = q.length →
    (rhF S q k u o l).length = q.length ∧ (∀ j : Nat, k ≤ j → (rhF S q k u o l).getD j 0 = l.getD j 0) ∧
    (∀ (j : Nat) (h : j < q.length), j < k → (rhF S q k u o l).getD j 0 = if q[j].secret = true then o / S ^ (cntW true q k - 1 - cntW true q j) % S else u / S ^ (cntW false q k - 1 - cntW false q j) % S)
  | 0, u, o, l, _, hl => ⟨hl, fun _ _ => rfl, fun j _ h => by omega⟩
  | k + 1, u, o, l, hk, hl => by
    have hr : rd q (k : Int) = q[k] := by
      have := rd_getN q (k : Int) (by omega) (by omega)
      simpa using this
    have c1 := cntW_succ true q k (by omega)
    have c0 := cntW_succ false q k (by omega)
    unfold rhF
    rw [hr]
    by_cases hsec : q[k].secret = true
    · rw [if_pos hsec]
      rw [if_pos hsec] at c1
      rw [if_neg (by rw [hsec]; decide)] at c0
      obtain ⟨i1, i2, i3⟩ := rhF_get S hS q k u (o / S) (l.set k (o % S)) (by omega) (by simpa using hl)
      refine ⟨i1, fun j hj => ?_, fun j h hj => ?_⟩
      · rw [i2 j (by omega), getD_set_int, if_neg (by omega)]
      · by_cases e : j = k
        · subst e
          rw [i2 j (Nat.le_refl _), getD_set_int, if_pos ⟨rfl, by omega⟩, if_pos hsec, c1, show cntW true q j + 1 - 1 - cntW true q j = 0 by omega]
          simp
        · rw [i3 j h (by omega), c1, c0]
          by_cases hj2 : q[j].secret = true
          · rw [if_pos hj2, if_pos hj2]
            have m1 := cntW_succ true q j h
            rw [if_pos hj2] at m1
            have m2 := cntW_mono true q (show j + 1 ≤ k by omega)
            rw [ediv_pow o S hS, show cntW true q k - 1 - cntW true q j + 1 = cntW true q k + 1 - 1 - cntW true q j by omega]
          · rw [if_neg hj2, if_neg hj2]
            simp
    · have hsec' : q[k].secret = false := by simpa using hsec
      rw [if_neg hsec]
      rw [if_neg hsec] at c1
      rw [if_pos hsec'] at c0
      obtain ⟨i1, i2, i3⟩ := rhF_get S hS q k (u / S) o (l.set k (u % S)) (by omega) (by simpa using hl)
      refine ⟨i1, fun j hj => ?_, fun j h hj => ?_⟩
      · rw [i2 j (by omega), getD_set_int, if_neg (by omega)]
      · by_cases e : j = k
        · subst e
          rw [i2 j (Nat.le_refl _), getD_set_int, if_pos ⟨rfl, by omega⟩, if_neg hsec, c0, show cntW false q j + 1 - 1 - cntW false q j = 0 by omega]
          simp
        · rw [i3 j h (by omega), c1, c0]
          by_cases hj2 : q[j].secret = true
          · rw [if_pos hj2, if_pos hj2]
            simp
          · have hj2' : q[j].secret = false := by simpa using hj2
            rw [if_neg hj2, if_neg hj2]
            have m1 := cntW_succ false q j h
            rw [if_pos hj2'] at m1
            have m2 := cntW_mono false q (show j + 1 ≤ k by omega)
            rw [ediv_pow u S hS, show cntW false q k - 1 - cntW false q j + 1 = cntW false q k + 1 - 1 - cntW false q j by omega]
theorem rhF_row (p : Prg) (hS : 0 < sizeS p.w) (u o : Int) : rhF (sizeS p.w) (placesS p) (placesS p).length u o (List.replicate (placesS p).length 0) = rowP p u o := by
  obtain ⟨i1, _, i3⟩ := rhF_get (sizeS p.w) hS (placesS p) (placesS p).length u o (List.replicate (placesS p).length 0) (Nat.le_refl _) (by simp)
  refine List.ext_getElem (by rw [i1, rowP_len]) fun j h1 h2 => ?_
  have hj : j < (placesS p).length := by rw [i1] at h1; exact h1
  have a := i3 j hj hj
  rw [List.getD_eq_getElem?_getD, List.getElem?_eq_getElem h1] at a
  simp only [Option.getD_some] at a
  have ct : ∀ b, cntW b (placesS p) (placesS p).length = (idxW b (placesS p) 0).length := fun b => by unfold cntW; rw [List.take_length]
  rw [a]
  by_cases hs : (placesS p)[j].secret = true
  · obtain ⟨k1, k2⟩ := cntW_rd true (placesS p) j hj hs
    have b := rowP_sec p hS u o (cntW true (placesS p) j) k1
    have k2' : rd (secS p) (cntW true (placesS p) j : Int) = j := k2
    rw [k2', Int.toNat_natCast, List.getD_eq_getElem?_getD, List.getElem?_eq_getElem h2] at b
    simp only [Option.getD_some] at b
    rw [b, if_pos hs, ct]
    rfl
  · have hs' : (placesS p)[j].secret = false := by simpa using hs
    obtain ⟨k1, k2⟩ := cntW_rd false (placesS p) j hj hs'
    have b := rowP_open p hS u o (cntW false (placesS p) j) k1
    have k2' : rd (openS p) (cntW false (placesS p) j : Int) = j := k2
    rw [k2', Int.toNat_natCast, List.getD_eq_getElem?_getD, List.getElem?_eq_getElem h2] at b
    simp only [Option.getD_some] at b
    rw [b, if_neg hs, ct]
    rfl
theorem l_rhold0 (p : Prg) (hw : okW p.w) (hm : Mems p.mems) (fin : List Int) (hf : fin.length = (placesS p).length) : ∀ i_ : Int × Int × Int × List Int, (fun (i : Int × Int × Int × List Int) => -1 ≤ i.1 ∧ i.1 < (placesS p).length ∧ 0 ≤ i.2.1 ∧ i.2.1 ≤ 1000000000 ∧ 0 ≤ i.2.2.1 ∧ i.2.2.1 ≤ 1000000000 ∧ i.2.2.2.length = (placesS p).length ∧ rhF (sizeS p.w) (placesS p) (i.1 + 1).toNat i.2.1 i.2.2.1 i.2.2.2 = fin) i_ → (a_rhold.at_ 0 ((fun (i : Int × Int × Int × List Int) => F_rh p (sizeS p.w) i.2.1 i.2.2.1 (placesS p) (placesS p).length (rowsOn i.2.2.2) i.1) i_)).holds s_rhold.cx a_rhold.rs (fun r => r.le (.agg (startS p fin).1.fresh)) := by
  refine loop_rule (a := a_rhold) (j := 0) (m := 400) s_rhold_sound (fun (i : Int × Int × Int × List Int) => F_rh p (sizeS p.w) i.2.1 i.2.2.1 (placesS p) (placesS p).length (rowsOn i.2.2.2) i.1) (fun (i : Int × Int × Int × List Int) => -1 ≤ i.1 ∧ i.1 < (placesS p).length ∧ 0 ≤ i.2.1 ∧ i.2.1 ≤ 1000000000 ∧ 0 ≤ i.2.2.1 ∧ i.2.2.1 ≤ 1000000000 ∧ i.2.2.2.length = (placesS p).length ∧ rhF (sizeS p.w) (placesS p) (i.1 + 1).toNat i.2.1 i.2.2.1 i.2.2.2 = fin) (fun (i : Int × Int × Int × List Int) => (i.1 + 1).toNat) ?_
  rintro ⟨i, u, o, l⟩ h_inv ih
  try dsimp only at h_inv
  replace ih := fun (v0 : Int) (v1 : Int) (v2 : Int) (v3 : List Int) => ih (v0, v1, v2, v3)
  try dsimp only at ih
  show VC.holds _ _ _ (a_rhold.round s_rhold 400 0 (F_rh p (sizeS p.w) u o (placesS p) (placesS p).length (rowsOn l) i))
  rw [t_rhold0]
  try simp only [asRows_sl, asInt_int, asBool_bool, asStr_str, listOf_rowsOn, List.drop_zero, Prg.eta, Sta.eta, rowsOn_length, getD_drop, Nat.reduceAdd, rd_int, rd_PMem_name, rd_PMem_secret, rd_PMem_n, rd_PLabel_name, rd_PLabel_at_, rd_Ins_kind, rd_Ins_op, rd_Ins_d, rd_Ins_aR, rd_Ins_aN, rd_Ins_bR, rd_Ins_bN, rd_Ins_name, rd_Ins_target, rd_Ent_pc, rd_Ent_val, rd_Ent_addr, rd_Ent_fro, rd_Ent_next, rd_Ent_done, rd_Ent_known, rd_Ent_fault, rd_Place_reg, rd_Place_n, rd_Place_secret, rd_Obs_kind, rd_Obs_at_, rd_Dir_kind, rd_Dir_n, Prg.of_cells, Sta.of_cells]
  obtain ⟨h0, h1, u0, u1, o0, o1, hl, h2⟩ := h_inv
  have hpl := places_len p hm
  have hs := size_pos hw
  have t1 : Int.tmod u (sizeS p.w) = u % sizeS p.w := Int.tmod_eq_emod_of_nonneg u0
  have t2 : Int.tdiv u (sizeS p.w) = u / sizeS p.w := Int.tdiv_eq_ediv_of_nonneg u0
  have t3 : Int.tmod o (sizeS p.w) = o % sizeS p.w := Int.tmod_eq_emod_of_nonneg o0
  have t4 : Int.tdiv o (sizeS p.w) = o / sizeS p.w := Int.tdiv_eq_ediv_of_nonneg o0
  have d1 : 0 ≤ u / sizeS p.w := Int.ediv_nonneg u0 (by omega)
  have d2 : u / sizeS p.w ≤ u := Int.ediv_le_self _ u0
  have d3 : 0 ≤ o / sizeS p.w := Int.ediv_nonneg o0 (by omega)
  have d4 : o / sizeS p.w ≤ o := Int.ediv_le_self _ o0
  have w1 : IntKind.wrap .i64 (i - 1) = i - 1 := wrap_small _ (by omega) (by omega)
  simp only [t1, t2, t3, t4, w1, wrap_small (u / sizeS p.w) (show -9223372036854775808 ≤ u / sizeS p.w by omega) (show u / sizeS p.w ≤ 9223372036854775807 by omega), wrap_small (o / sizeS p.w) (show -9223372036854775808 ≤ o / sizeS p.w by omega) (show o / sizeS p.w ≤ 9223372036854775807 by omega)]
  refine br_dec (fun hd => ?_) (fun hd => ?_)
  · have e1 : (i + 1).toNat = i.toNat + 1 := by omega
    have ei : ((i.toNat : Nat) : Int) = i := by omega
    rw [e1] at h2
    unfold rhF at h2
    rw [ei] at h2
    have set1 : ∀ v : Int, List.set (rowsOn l) i.toNat (splice (rowAt (rowsOn l) i.toNat) 0 [D.int .i64 v]) = rowsOn (l.set i.toNat v) := fun v => (OnL.set (α := Int) (n := l.length) ⟨rfl, rfl⟩ hd (by omega) v).1
    rw [set1, set1]
    have g : (rowAt (rowsOn l) i.toNat).length = 1 := by rw [rowAt_on l i hd (by omega)]; rfl
    refine ⟨⟨hd, h1⟩, placeS_ok _ i hd h1, br_holds (fun hb => ?_) (fun hb => ?_)⟩
    · rw [if_pos hb] at h2
      exact ⟨by omega, by omega, ⟨hd, h1⟩, ⟨by omega, g, Nat.le_refl _⟩, ih _ _ _ _ ⟨by omega, by omega, u0, u1, d3, by omega, by simpa using hl, by rw [show i - 1 + 1 = i by omega]; exact h2⟩ (by omega)⟩
    · rw [if_neg (by rw [hb]; decide)] at h2
      exact ⟨by omega, by omega, ⟨hd, h1⟩, ⟨by omega, g, Nat.le_refl _⟩, ih _ _ _ _ ⟨by omega, by omega, d1, by omega, o0, o1, by simpa using hl, by rw [show i - 1 + 1 = i by omega]; exact h2⟩ (by omega)⟩
  · rw [show (i + 1).toNat = 0 by omega] at h2
    have h2 : l = fin := h2
    subst h2
    refine ⟨PreOk.mk hm rfl, all_holds fun y hy => ret_le ?_⟩
    replace hy : y = startS p l := by rw [hy]; simp [v_rStart]
    subst hy
    exact RR.le_refl _
theorem c_rhold_good : c_rhold.fe.Good Try.prog := by
  refine FT.good c_rhold ⟨Try.f98, by kernel_rfl, by decide +kernel, by kernel_rfl⟩ (fun ⟨p, u, o⟩ => by first | rfl | simp [c_rhold, rrRef, rint, rpair, rsplit, rnewI, rnewE, rstab, rplaces, ri, rb, rib, rnum, rby, rss, rii, Sta.fresh]) fun ⟨p, u, o⟩ hp => ?_
  refine acalls_le s_rhold_sound (fn := Try.f98) (a := a_rhold) (nargs := 3) (tbl := [(5, [1, 2, 3, 6, 7, 8, 9, 10, 1000007000000900001003, 1000008000000900002001])]) (by kernel_rfl) (by kernel_rfl) rfl (m := 400) ?_
  show VC.holds _ _ _ (a_rhold.start s_rhold 400 [ap p, ai u, ai o])
  rw [t_rhold]
  try simp only [asRows_sl, asInt_int, asBool_bool, asStr_str, listOf_rowsOn, List.drop_zero, Prg.eta, Sta.eta, rowsOn_length, getD_drop, Nat.reduceAdd, rd_int, rd_PMem_name, rd_PMem_secret, rd_PMem_n, rd_PLabel_name, rd_PLabel_at_, rd_Ins_kind, rd_Ins_op, rd_Ins_d, rd_Ins_aR, rd_Ins_aN, rd_Ins_bR, rd_Ins_bN, rd_Ins_name, rd_Ins_target, rd_Ent_pc, rd_Ent_val, rd_Ent_addr, rd_Ent_fro, rd_Ent_next, rd_Ent_done, rd_Ent_known, rd_Ent_fault, rd_Place_reg, rd_Place_n, rd_Place_secret, rd_Obs_kind, rd_Obs_at_, rd_Dir_kind, rd_Dir_n, Prg.of_cells, Sta.of_cells]
  try simp only [c_rhold] at hp
  obtain ⟨hw, hm, u0, u1, o0, o1⟩ := hp
  have hpl := places_len p hm
  have hs := size_pos hw
  refine ⟨PreOk.mk hm rfl, all_holds fun y hy => ?_⟩
  replace hy : y = placesS p := by rw [hy]; simp [v_rPlaces]
  subst hy
  have w1 : IntKind.wrap .i64 (((placesS p).length : Int) - 1) = ((placesS p).length : Int) - 1 := wrap_small _ (by omega) (by omega)
  rw [w1, Int.toNat_natCast, rep_on]
  refine ⟨⟨trivial, by omega, by omega⟩, PreOk.mk trivial rfl, ?_⟩
  exact l_rhold0 p hw hm (rowP p u o) (rowP_len p u o) (((placesS p).length : Int) - 1, u, o, _) ⟨by dsimp only; omega, by dsimp only; omega, u0, u1, o0, o1, by simp, by rw [show (((placesS p).length : Int) - 1 + 1).toNat = (placesS p).length by omega]; exact rhF_row p (by omega) u o⟩
noncomputable def v_rhold : Prg × Int × Int → Sta := fun x => (startS x.1 (rowP x.1 x.2.1 x.2.2)).1
noncomputable def sh_rhold : Sta → RR := fun s => .agg s.fresh
theorem e_rhold (x : Prg × Int × Int) : sh_rhold (v_rhold x) = c_rhold.ans x := rfl
def c_rPAt : FT (Prg × Int) := ⟨52, fun x => [ap x.1, ai x.2], rdPIq, fun x => okW x.1.w ∧ Mems x.1.mems, fun x => rpair (atP x.1 x.2), false, fun x => by simp [ap, ai, rdPIq]⟩
noncomputable def a_rPAt : FnA := (fnA Try.prog Try.f52 2 [(10, [1, 2, 4, 5, 8, 9, 10, 11])]).getD ⟨0, .skip, [], []⟩
noncomputable def s_rPAt : Sp := spT [c_sizes.gfe v_sizes sh_sizes e_sizes, c_rhold.gfe v_rhold sh_rhold e_rhold]
theorem s_rPAt_sound : s_rPAt.sound Try.prog := spT_sound fun e he => by
  simp only [List.mem_cons, List.not_mem_nil, or_false] at he
  rcases he with rfl | rfl
  · exact FT.gfe_good c_sizes_good
  · exact FT.gfe_good c_rhold_good
def F_rp (p : Prg) (i sec per k one : Int) : St := ⟨mkS 81 [(1, vi i), (2, vp 128), (4, vp 256), (5, vp 320), (8, vi sec), (9, vi per), (10, vi k), (11, vi one)], [(128, bx p.cells), (256, zb2), (320, zb2)]⟩
set_option maxRecDepth 100000 in
theorem t_rPAt (p : Prg) (i : Int) : a_rPAt.start s_rPAt 400 [ap p, ai i] =
(VC.need (PreOk c_sizes (Prg.of (Prg.cells p), (1099511627776 : Int)) [A.agg (Prg.cells p), A.c (D.int IntKind.i64 (1099511627776 : Int))])
(VC.all ((gpS (Prg.of (Prg.cells p)) (List.length (openS (Prg.of (Prg.cells p)))), gpS (Prg.of (Prg.cells p)) (List.length (secS (Prg.of (Prg.cells p)))))) fun (y2 : Int × Int) =>
(VC.br (decide (i < (0 : Int)))
 (VC.ret (some (RR.tup [Sum.inr [Rc.d (D.int IntKind.i64 (0 : Int)), Rc.d (D.int IntKind.i64 (0 : Int)), Rc.d (D.int IntKind.i64 (0 : Int)), Rc.d (D.int IntKind.i64 (0 : Int)), Rc.nil, Rc.nil, Rc.d (D.int IntKind.i64 (0 : Int))], Sum.inr [Rc.d (D.int IntKind.i64 (0 : Int)), Rc.d (D.int IntKind.i64 (0 : Int)), Rc.d (D.int IntKind.i64 (0 : Int)), Rc.d (D.int IntKind.i64 (0 : Int)), Rc.nil, Rc.nil, Rc.d (D.int IntKind.i64 (0 : Int))], Sum.inl (Rc.d (D.bool false))])))
 (VC.br (decide ((1000000 : Int) ≤ i))
  (VC.ret (some (RR.tup [Sum.inr [Rc.d (D.int IntKind.i64 (0 : Int)), Rc.d (D.int IntKind.i64 (0 : Int)), Rc.d (D.int IntKind.i64 (0 : Int)), Rc.d (D.int IntKind.i64 (0 : Int)), Rc.nil, Rc.nil, Rc.d (D.int IntKind.i64 (0 : Int))], Sum.inr [Rc.d (D.int IntKind.i64 (0 : Int)), Rc.d (D.int IntKind.i64 (0 : Int)), Rc.d (D.int IntKind.i64 (0 : Int)), Rc.d (D.int IntKind.i64 (0 : Int)), Rc.nil, Rc.nil, Rc.d (D.int IntKind.i64 (0 : Int))], Sum.inl (Rc.d (D.bool false))])))
  (VC.br (decide (y2.snd < (2 : Int)))
   (VC.ret (some (RR.tup [Sum.inr [Rc.d (D.int IntKind.i64 (0 : Int)), Rc.d (D.int IntKind.i64 (0 : Int)), Rc.d (D.int IntKind.i64 (0 : Int)), Rc.d (D.int IntKind.i64 (0 : Int)), Rc.nil, Rc.nil, Rc.d (D.int IntKind.i64 (0 : Int))], Sum.inr [Rc.d (D.int IntKind.i64 (0 : Int)), Rc.d (D.int IntKind.i64 (0 : Int)), Rc.d (D.int IntKind.i64 (0 : Int)), Rc.d (D.int IntKind.i64 (0 : Int)), Rc.nil, Rc.nil, Rc.d (D.int IntKind.i64 (0 : Int))], Sum.inl (Rc.d (D.bool false))])))
   (VC.br (decide (y2.snd < (2097152 : Int)))
    (VC.need ((2 : Int) ≠ (0 : Int))
    (VC.need (IntKind.wrap IntKind.i64 (Int.tdiv (IntKind.wrap IntKind.i64 (y2.snd * IntKind.wrap IntKind.i64 (y2.snd - (1 : Int)))) (2 : Int)) ≠ (0 : Int))
    (VC.br (decide (y2.fst ≤ IntKind.wrap IntKind.i64 (Int.tdiv i (IntKind.wrap IntKind.i64 (Int.tdiv (IntKind.wrap IntKind.i64 (y2.snd * IntKind.wrap IntKind.i64 (y2.snd - (1 : Int)))) (2 : Int))))))
     (VC.ret (some (RR.tup [Sum.inr [Rc.d (D.int IntKind.i64 (0 : Int)), Rc.d (D.int IntKind.i64 (0 : Int)), Rc.d (D.int IntKind.i64 (0 : Int)), Rc.d (D.int IntKind.i64 (0 : Int)), Rc.nil, Rc.nil, Rc.d (D.int IntKind.i64 (0 : Int))], Sum.inr [Rc.d (D.int IntKind.i64 (0 : Int)), Rc.d (D.int IntKind.i64 (0 : Int)), Rc.d (D.int IntKind.i64 (0 : Int)), Rc.d (D.int IntKind.i64 (0 : Int)), Rc.nil, Rc.nil, Rc.d (D.int IntKind.i64 (0 : Int))], Sum.inl (Rc.d (D.bool false))])))
     (VC.need (IntKind.wrap IntKind.i64 (Int.tdiv (IntKind.wrap IntKind.i64 (y2.snd * IntKind.wrap IntKind.i64 (y2.snd - (1 : Int)))) (2 : Int)) ≠ (0 : Int))
     (FnA.at_ a_rPAt 0 (F_rp p i y2.snd (IntKind.wrap IntKind.i64 (Int.tdiv (IntKind.wrap IntKind.i64 (y2.snd * IntKind.wrap IntKind.i64 (y2.snd - (1 : Int)))) (2 : Int))) (Int.tmod i (IntKind.wrap IntKind.i64 (Int.tdiv (IntKind.wrap IntKind.i64 (y2.snd * IntKind.wrap IntKind.i64 (y2.snd - (1 : Int)))) (2 : Int)))) (0 : Int)))))))
    (VC.need (PreOk c_rhold (Prg.of (Prg.cells p), (0 : Int), (0 : Int)) [A.agg (Prg.cells p), A.c (D.int IntKind.i64 (0 : Int)), A.c (D.int IntKind.i64 (0 : Int))])
    (VC.all (v_rhold (Prg.of (Prg.cells p), (0 : Int), (0 : Int))) fun (y3 : Sta) =>
    (VC.need (PreOk c_rhold (Prg.of (Prg.cells p), (0 : Int), IntKind.wrap IntKind.i64 ((1 : Int) + i)) [A.agg (Prg.cells p), A.c (D.int IntKind.i64 (0 : Int)), A.c (D.int IntKind.i64 (IntKind.wrap IntKind.i64 ((1 : Int) + i)))])
    (VC.all (v_rhold (Prg.of (Prg.cells p), (0 : Int), IntKind.wrap IntKind.i64 ((1 : Int) + i))) fun (y4 : Sta) =>
    (VC.ret (some (RR.tup [Sum.inr [Rc.d (D.int IntKind.i64 y3.r0), Rc.d (D.int IntKind.i64 y3.r1), Rc.d (D.int IntKind.i64 y3.r2), Rc.d (D.int IntKind.i64 y3.r3), Rc.new (1 : Nat) (rowsOn y3.mem), Rc.new (1 : Nat) (rowsOn y3.stack), Rc.d (D.int IntKind.i64 y3.pc)], Sum.inr [Rc.d (D.int IntKind.i64 y4.r0), Rc.d (D.int IntKind.i64 y4.r1), Rc.d (D.int IntKind.i64 y4.r2), Rc.d (D.int IntKind.i64 y4.r3), Rc.new (1 : Nat) (rowsOn y4.mem), Rc.new (1 : Nat) (rowsOn y4.stack), Rc.d (D.int IntKind.i64 y4.pc)], Sum.inl (Rc.d (D.bool true))]))))))))))))) := by kernel_rfl
set_option maxRecDepth 100000 in
theorem t_rp0 (p : Prg) (i sec per k one : Int) : a_rPAt.round s_rPAt 400 0 (F_rp p i sec per k one) =
(VC.br (decide (IntKind.wrap IntKind.i64 (IntKind.wrap IntKind.i64 (sec - (1 : Int)) - one) ≤ k))
 (FnA.at_ a_rPAt 0 (F_rp p i sec per (IntKind.wrap IntKind.i64 (k - IntKind.wrap IntKind.i64 (IntKind.wrap IntKind.i64 (sec - (1 : Int)) - one))) (IntKind.wrap IntKind.i64 (one + (1 : Int)))))
 (VC.need (per ≠ (0 : Int))
 (VC.need (PreOk c_rhold (Prg.of (Prg.cells p), IntKind.wrap IntKind.i64 (Int.tdiv i per), one) [A.agg (Prg.cells p), A.c (D.int IntKind.i64 (IntKind.wrap IntKind.i64 (Int.tdiv i per))), A.c (D.int IntKind.i64 one)])
 (VC.all (v_rhold (Prg.of (Prg.cells p), IntKind.wrap IntKind.i64 (Int.tdiv i per), one)) fun (y6 : Sta) =>
 (VC.need (per ≠ (0 : Int))
 (VC.need (PreOk c_rhold (Prg.of (Prg.cells p), IntKind.wrap IntKind.i64 (Int.tdiv i per), IntKind.wrap IntKind.i64 (IntKind.wrap IntKind.i64 (one + (1 : Int)) + k)) [A.agg (Prg.cells p), A.c (D.int IntKind.i64 (IntKind.wrap IntKind.i64 (Int.tdiv i per))), A.c (D.int IntKind.i64 (IntKind.wrap IntKind.i64 (IntKind.wrap IntKind.i64 (one + (1 : Int)) + k)))])
 (VC.all (v_rhold (Prg.of (Prg.cells p), IntKind.wrap IntKind.i64 (Int.tdiv i per), IntKind.wrap IntKind.i64 (IntKind.wrap IntKind.i64 (one + (1 : Int)) + k))) fun (y7 : Sta) =>
 (VC.ret (some (RR.tup [Sum.inr [Rc.d (D.int IntKind.i64 y6.r0), Rc.d (D.int IntKind.i64 y6.r1), Rc.d (D.int IntKind.i64 y6.r2), Rc.d (D.int IntKind.i64 y6.r3), Rc.new (1 : Nat) (rowsOn y6.mem), Rc.new (1 : Nat) (rowsOn y6.stack), Rc.d (D.int IntKind.i64 y6.pc)], Sum.inr [Rc.d (D.int IntKind.i64 y7.r0), Rc.d (D.int IntKind.i64 y7.r1), Rc.d (D.int IntKind.i64 y7.r2), Rc.d (D.int IntKind.i64 y7.r3), Rc.new (1 : Nat) (rowsOn y7.mem), Rc.new (1 : Nat) (rowsOn y7.stack), Rc.d (D.int IntKind.i64 y7.pc)], Sum.inl (Rc.d (D.bool true))])))))))))) := by kernel_rfl
theorem l_rp00 (p : Prg) (hw : okW p.w) (hm : Mems p.mems) (i all each : Int) (h0 : 0 ≤ i) (h1 : i < 1000000) (he : 0 < each) (ha : 0 < all) (ha1 : all ≤ 2097152) : ∀ (m : Nat) (one rest : Int), 0 ≤ rest → rest ≤ 1000000 → 0 ≤ one → one < all → one + rest ≤ 1000000 → 2 * rest < (all - one) * (all - one - 1) → rest ≤ m →
    (FnA.at_ a_rPAt 0 (F_rp p i all each rest one)).holds s_rPAt.cx a_rPAt.rs fun r => r.le (rpair ((startS p (rowP p (i / each) (oneF all m one rest).1)).1, (startS p (rowP p (i / each) ((oneF all m one rest).1 + 1 + (oneF all m one rest).2))).1, true)) := by
  intro m
  have hd0 : 0 ≤ i / each := Int.ediv_nonneg h0 (by omega)
  have hd1 : i / each ≤ i := Int.ediv_le_self _ h0
  have t1 : Int.tdiv i each = i / each := Int.tdiv_eq_ediv_of_nonneg h0
  have w0 : IntKind.wrap .i64 (i / each) = i / each := wrap_small _ (by omega) (by omega)
  have fin : ∀ one rest : Int, 0 ≤ rest → rest ≤ 1000000 → 0 ≤ one → one ≤ 1000000 → rest < all - 1 - one → one < all →
      (FnA.at_ a_rPAt 0 (F_rp p i all each rest one)).holds s_rPAt.cx a_rPAt.rs fun r => r.le (rpair ((startS p (rowP p (i / each) one)).1, (startS p (rowP p (i / each) (one + 1 + rest))).1, true)) := by
    intro one rest r0 r1 o0 o1 hlt ho
    refine at_of_round s_rPAt_sound (m := 400) ?_
    rw [t_rp0]
    have w1 : IntKind.wrap .i64 (all - 1) = all - 1 := wrap_small _ (by omega) (by omega)
    have w2 : IntKind.wrap .i64 (all - 1 - one) = all - 1 - one := wrap_small _ (by omega) (by omega)
    have w3 : IntKind.wrap .i64 (one + 1) = one + 1 := wrap_small _ (by omega) (by omega)
    have w4 : IntKind.wrap .i64 (one + 1 + rest) = one + 1 + rest := wrap_small _ (by omega) (by omega)
    simp only [w1, w2, w3, w4, t1, w0, Prg.of_cells]
    refine br_dec (fun h => by omega) (fun h => ⟨by omega, PreOk.mk ⟨hw, hm, by dsimp only; omega, by dsimp only; omega, by dsimp only; omega, by dsimp only; omega⟩ rfl, all_holds fun y hy => ⟨by omega, PreOk.mk ⟨hw, hm, by dsimp only; omega, by dsimp only; omega, by dsimp only; omega, by dsimp only; omega⟩ rfl, all_holds fun z hz => ret_le ?_⟩⟩)
    replace hy : y = (startS p (rowP p (i / each) one)).1 := hy
    replace hz : z = (startS p (rowP p (i / each) (one + 1 + rest))).1 := hz
    rw [← hy, ← hz]
    exact RR.le_refl _
  induction m with
  | zero =>
    intro one rest r0 r1 o0 o1 hs h2 hm0
    have hx : all - one - 1 ≠ 0 := fun e => by rw [e, Int.mul_zero] at h2; omega
    exact fin one rest r0 r1 o0 (by omega) (by omega) o1
  | succ m ih =>
    intro one rest r0 r1 o0 o1 hs h2 hm0
    have hx : all - one - 1 ≠ 0 := fun e => by rw [e, Int.mul_zero] at h2; omega
    unfold oneF
    by_cases h : all - 1 - one ≤ rest
    · rw [if_pos h]
      refine at_of_round s_rPAt_sound (m := 400) ?_
      rw [t_rp0]
      have ht := tri (all - one)
      have e1 : all - (one + 1) = all - one - 1 := by omega
      have w1 : IntKind.wrap .i64 (all - 1) = all - 1 := wrap_small _ (by omega) (by omega)
      have w2 : IntKind.wrap .i64 (all - 1 - one) = all - 1 - one := wrap_small _ (by omega) (by omega)
      have w3 : IntKind.wrap .i64 (one + 1) = one + 1 := wrap_small _ (by omega) (by omega)
      have w4 : IntKind.wrap .i64 (rest - (all - 1 - one)) = rest - (all - 1 - one) := wrap_small _ (by omega) (by omega)
      rw [w1, w2, w3, w4]
      refine br_dec (fun _ => ?_) (fun q => absurd h q)
      exact ih (one + 1) (rest - (all - 1 - one)) (by omega) (by omega) (by omega) (by omega) (by omega) (by rw [e1]; omega) (by omega)
    · rw [if_neg h]
      exact fin one rest r0 r1 o0 (by omega) (by omega) o1
theorem at_ref {p : Prg} (hw : okW p.w) (i : Int) (h0 : 0 ≤ i) (h1 : i < 1000000) :
    (gpS p (secS p).length < 2 → twoS (powS p (secS p).length) = 0) ∧
    (2 ≤ gpS p (secS p).length → gpS p (secS p).length < 2097152 → powS p (secS p).length = gpS p (secS p).length ∧ 1 ≤ gpS p (secS p).length * (gpS p (secS p).length - 1) / 2 ∧ twoS (gpS p (secS p).length) ≠ 0 ∧
      i / twoS (gpS p (secS p).length) = i / (gpS p (secS p).length * (gpS p (secS p).length - 1) / 2) ∧ i % twoS (gpS p (secS p).length) = i % (gpS p (secS p).length * (gpS p (secS p).length - 1) / 2)) ∧
    (2097152 ≤ gpS p (secS p).length → 2097152 ≤ powS p (secS p).length ∧ twoS (powS p (secS p).length) = farS) ∧
    (∀ d : Int, 0 ≤ d → d < 1000000 → (gpS p (openS p).length ≤ d ↔ powS p (openS p).length ≤ d)) := by
  have hs := size_pos hw
  have hX : 0 < sizeS p.w ^ (secS p).length := Int.pow_pos (by omega)
  have hY : 0 < sizeS p.w ^ (openS p).length := Int.pow_pos (by omega)
  unfold powS gpS
  generalize sizeS p.w ^ (secS p).length = X at *
  generalize sizeS p.w ^ (openS p).length = Y at *
  refine ⟨fun h => ?_, fun g1 g2 => ?_, fun h => ?_, fun d d0 d1 => by unfold greatS farS; omega⟩
  · have : X = 1 := by unfold greatS at h; omega
    subst this
    decide
  · have eX : min X (greatS + 1) = X := by unfold greatS at g1 g2 ⊢; omega
    have eA : min X farS = X := by unfold greatS at g1 g2; unfold farS; omega
    rw [eX] at g1 g2 ⊢
    have ht : 1 ≤ X * (X - 1) / 2 := by
      have := tri_mono (show (1 : Int) ≤ 2 by decide) g1
      omega
    unfold twoS
    generalize X * (X - 1) / 2 = T at *
    refine ⟨eA, ht, by unfold farS; omega, ?_, ?_⟩
    · by_cases hT : T ≤ farS
      · rw [show min T farS = T by omega]
      · rw [show min T farS = farS by omega, Int.ediv_eq_zero_of_lt h0 (by unfold farS; omega), Int.ediv_eq_zero_of_lt h0 (by unfold farS at hT; omega)]
    · by_cases hT : T ≤ farS
      · rw [show min T farS = T by omega]
      · rw [show min T farS = farS by omega, Int.emod_eq_of_lt h0 (by unfold farS; omega), Int.emod_eq_of_lt h0 (by unfold farS at hT; omega)]
  · have hA : 2097152 ≤ min X farS := by unfold greatS at h; unfold farS; omega
    have ht := tri_mono (show (1 : Int) ≤ 2097152 by decide) hA
    refine ⟨hA, ?_⟩
    unfold twoS farS at *
    omega
theorem oneF_stay (all : Int) (m : Nat) (one rest : Int) (h : rest < all - 1 - one) : oneF all m one rest = (one, rest) := by
  cases m with
  | zero => rfl
  | succ m => unfold oneF; rw [if_neg (by omega)]
theorem c_rPAt_good : c_rPAt.fe.Good Try.prog := by
  refine FT.good c_rPAt ⟨Try.f52, by kernel_rfl, by decide +kernel, by kernel_rfl⟩ (fun ⟨p, i⟩ => by first | rfl | simp [c_rPAt, rrRef, rint, rpair, rsplit, rnewI, rnewE, rstab, rplaces, ri, rb, rib, rnum, rby, rss, rii, Sta.fresh]) fun ⟨p, i⟩ hp => ?_
  refine acalls_le s_rPAt_sound (fn := Try.f52) (a := a_rPAt) (nargs := 2) (tbl := [(10, [1, 2, 4, 5, 8, 9, 10, 11])]) (by kernel_rfl) (by kernel_rfl) rfl (m := 400) ?_
  show VC.holds _ _ _ (a_rPAt.start s_rPAt 400 [ap p, ai i])
  rw [t_rPAt]
  try simp only [asRows_sl, asInt_int, asBool_bool, asStr_str, listOf_rowsOn, List.drop_zero, Prg.eta, Sta.eta, rowsOn_length, getD_drop, Nat.reduceAdd, rd_int, rd_PMem_name, rd_PMem_secret, rd_PMem_n, rd_PLabel_name, rd_PLabel_at_, rd_Ins_kind, rd_Ins_op, rd_Ins_d, rd_Ins_aR, rd_Ins_aN, rd_Ins_bR, rd_Ins_bN, rd_Ins_name, rd_Ins_target, rd_Ent_pc, rd_Ent_val, rd_Ent_addr, rd_Ent_fro, rd_Ent_next, rd_Ent_done, rd_Ent_known, rd_Ent_fault, rd_Place_reg, rd_Place_n, rd_Place_secret, rd_Obs_kind, rd_Obs_at_, rd_Dir_kind, rd_Dir_n, Prg.of_cells, Sta.of_cells]
  try simp only [c_rPAt] at hp
  obtain ⟨hw, hm⟩ := hp
  have e : c_rPAt.ans (p, i) = rpair (atP p i) := rfl
  rw [e]
  have b0 := gpS_pos hw (openS p).length
  have b1 := gpS_pos hw (secS p).length
  obtain ⟨pp1, pp2, pp3⟩ := powS_pos hw (openS p).length
  refine ⟨PreOk.mk ⟨hw, hm, rfl⟩ rfl, all_holds fun y hy => ?_⟩
  replace hy : y = (gpS p (openS p).length, gpS p (secS p).length) := by rw [hy]
  subst hy
  unfold atP
  refine br_dec (fun h => ?_) (fun h0 => ?_)
  · rw [if_pos (.inl h)]; exact ret_le zero_le2
  refine br_dec (fun h => ?_) (fun h1 => ?_)
  · rw [if_pos (.inr (.inl h))]; exact ret_le zero_le2
  obtain ⟨k1, k2, k3, k4⟩ := at_ref hw i (by omega) (by omega)
  refine br_dec (fun h => ?_) (fun h2 => ?_)
  · rw [if_pos (.inr (.inr (.inl (k1 h))))]; exact ret_le zero_le2
  refine br_dec (fun h3 => ?_) (fun h3 => ?_)
  · obtain ⟨j1, j2, j3, j4, j5⟩ := k2 (by omega) h3
    rw [j1]
    dsimp only at h2 h3 ⊢
    generalize gpS p (secS p).length = X at *
    have hx := tri_mono (show 1 ≤ X by omega) (show X ≤ 2097152 by omega)
    have hx0 := tri_pos (show 1 ≤ X by omega)
    have t2 := tri_even X
    rw [wrap_small (X - 1) (by omega) (by omega), wrap_small (X * (X - 1)) (by omega) (by omega), Int.tdiv_eq_ediv_of_nonneg hx0, wrap_small (X * (X - 1) / 2) (by omega) (by omega), j4, j5]
    generalize X * (X - 1) / 2 = T at *
    have d0 : 0 ≤ i / T := Int.ediv_nonneg (by omega) (by omega)
    have d1 : i / T ≤ i := Int.ediv_le_self _ (by omega)
    have m0 := Int.emod_nonneg i (show T ≠ 0 by omega)
    have m1 := Int.emod_lt_of_pos i (show 0 < T by omega)
    have m2 : i % T ≤ i := by have := Int.mul_ediv_add_emod i T; have : 0 ≤ T * (i / T) := Int.mul_nonneg (by omega) d0; omega
    rw [Int.tdiv_eq_ediv_of_nonneg (show 0 ≤ i by omega), wrap_small (i / T) (by omega) (by omega), Int.tmod_eq_emod_of_nonneg (show 0 ≤ i by omega)]
    have k4 := k4 (i / T) d0 (by omega)
    refine ⟨by decide, by omega, br_dec (fun h => ?_) (fun h4 => ⟨by omega, ?_⟩)⟩
    · rw [if_pos (.inr (.inr (.inr (k4.1 h))))]; exact ret_le zero_le2
    · rw [if_neg (by rintro (q | q | q | q) <;> first | omega | exact j3 q | exact h4 (k4.2 q))]
      exact l_rp00 p hw hm i X T (by omega) (by omega) (by omega) (by omega) (by omega) _ 0 (i % T) m0 (by omega) (by omega) (by omega) (by omega) (by rw [Int.sub_zero]; omega) (by omega)
  · obtain ⟨j1, j2⟩ := k3 (by omega)
    rw [j2, Int.ediv_eq_zero_of_lt (show 0 ≤ i by omega) (by unfold farS; omega), Int.emod_eq_of_lt (show 0 ≤ i by omega) (by unfold farS; omega)]
    rw [if_neg (by unfold farS; omega)]
    unfold oneS
    rw [oneF_stay _ _ _ _ (by omega)]
    rw [wrap_small (1 + i) (by omega) (by omega)]
    refine ⟨PreOk.mk ⟨hw, hm, by dsimp only; omega, by dsimp only; omega, by dsimp only; omega, by dsimp only; omega⟩ rfl, all_holds fun y hy => ⟨PreOk.mk ⟨hw, hm, by dsimp only; omega, by dsimp only; omega, by dsimp only; omega, by dsimp only; omega⟩ rfl, all_holds fun z hz => ret_le ?_⟩⟩
    replace hy : y = (startS p (rowP p 0 0)).1 := hy
    replace hz : z = (startS p (rowP p 0 (1 + i))).1 := hz
    have e1 : ((0 : Int) + 1 + i) = 1 + i := by omega
    dsimp only
    rw [e1, ← hy, ← hz]
    exact RR.le_refl _
noncomputable def v_rPAt : Prg × Int → Sta × Sta × Bool := fun x => atP x.1 x.2
noncomputable def sh_rPAt : Sta × Sta × Bool → RR := fun y => rpair y
theorem e_rPAt (x : Prg × Int) : sh_rPAt (v_rPAt x) = c_rPAt.ans x := rfl
end Go.Proofs.Ytclabjihjopclaa.Ax
end

section
/- One by one: seqm's small functions. -/
namespace Go.Proofs.Ytclabjihjopclaa.Ax
open Go.RowKit
set_option linter.unusedVariables false
set_option linter.unusedSimpArgs false
def rins (i : Ins) : RR := .agg ((row i).map .d)
def rdPI : List A → Prg × Int
  | [.agg l, .c (.int _ i)] => (Prg.of l, i)
  | _ => default
def aIns (i : Ins) : A := .agg (row i)
def aVal (r : Bool) (n : Int) : A := .agg [.bool r, .int .i64 n]
def c_sAt : FT (Prg × Int) := ⟨61, fun x => [ap x.1, ai x.2], rdPI, fun _ => True, fun x => rins (atS x.1.ins x.2), false, fun x => by simp [ap, ai, rdPI]⟩
noncomputable def a_sAt : FnA := (fnA Try.prog Try.f61 2 []).getD ⟨0, .skip, [], []⟩
def s_sAt : Sp := spT []
theorem s_sAt_sound : s_sAt.sound Try.prog := spT_sound fun e he => by cases he
set_option maxRecDepth 100000 in
theorem t_sAt (p : Prg) (i : Int) : a_sAt.start s_sAt 400 [ap p, ai i] =
(VC.br (decide (i < (0 : Int)))
 (VC.ret (some (RR.agg [Rc.d (D.int IntKind.i64 (12 : Int)), Rc.d (D.int IntKind.i64 (0 : Int)), Rc.d (D.int IntKind.i64 (0 : Int)), Rc.d (D.bool false), Rc.d (D.int IntKind.i64 (0 : Int)), Rc.d (D.bool false), Rc.d (D.int IntKind.i64 (0 : Int)), Rc.d (D.str { data := #[] }), Rc.d (D.int IntKind.i64 (0 : Int))])))
 (VC.br (decide ((↑(List.length (rowsOn p.ins)) : Int) ≤ i))
  (VC.ret (some (RR.agg [Rc.d (D.int IntKind.i64 (12 : Int)), Rc.d (D.int IntKind.i64 (0 : Int)), Rc.d (D.int IntKind.i64 (0 : Int)), Rc.d (D.bool false), Rc.d (D.int IntKind.i64 (0 : Int)), Rc.d (D.bool false), Rc.d (D.int IntKind.i64 (0 : Int)), Rc.d (D.str { data := #[] }), Rc.d (D.int IntKind.i64 (0 : Int))])))
  (VC.need ((0 : Int) ≤ i ∧ i < (↑(List.length (rowsOn p.ins)) : Int) ∧ List.length (rowAt (rowsOn p.ins) (Int.toNat i)) = (9 : Nat))
  (VC.need (okSh [Kd.int IntKind.i64, Kd.int IntKind.i64, Kd.int IntKind.i64, Kd.bool, Kd.int IntKind.i64, Kd.bool, Kd.int IntKind.i64, Kd.str, Kd.int IntKind.i64] (rowAt (rowsOn p.ins) (Int.toNat i)))
  (VC.ret (some (RR.agg [Rc.d (D.int IntKind.i64 (asInt (List.getD (rowAt (rowsOn p.ins) (Int.toNat i)) (0 : Nat) D.nilp))), Rc.d (D.int IntKind.i64 (asInt (List.getD (rowAt (rowsOn p.ins) (Int.toNat i)) (1 : Nat) D.nilp))), Rc.d (D.int IntKind.i64 (asInt (List.getD (rowAt (rowsOn p.ins) (Int.toNat i)) (2 : Nat) D.nilp))), Rc.d (D.bool (asBool (List.getD (rowAt (rowsOn p.ins) (Int.toNat i)) (3 : Nat) D.nilp))), Rc.d (D.int IntKind.i64 (asInt (List.getD (rowAt (rowsOn p.ins) (Int.toNat i)) (4 : Nat) D.nilp))), Rc.d (D.bool (asBool (List.getD (rowAt (rowsOn p.ins) (Int.toNat i)) (5 : Nat) D.nilp))), Rc.d (D.int IntKind.i64 (asInt (List.getD (rowAt (rowsOn p.ins) (Int.toNat i)) (6 : Nat) D.nilp))), Rc.d (D.str (asStr (List.getD (rowAt (rowsOn p.ins) (Int.toNat i)) (7 : Nat) D.nilp))), Rc.d (D.int IntKind.i64 (asInt (List.getD (rowAt (rowsOn p.ins) (Int.toNat i)) (8 : Nat) D.nilp)))]))))))) := by kernel_rfl
theorem c_sAt_good : c_sAt.fe.Good Try.prog := by
  refine FT.good c_sAt ⟨Try.f61, by kernel_rfl, by decide +kernel, by kernel_rfl⟩ (fun ⟨p, i⟩ => by first | rfl | simp [c_sAt, rrRef, rnum, rby, rss, rnewI, rnewE, rstab, rplaces, ri, rb, rib, rins, Sta.fresh]) fun ⟨p, i⟩ hp => ?_
  refine acalls_le s_sAt_sound (fn := Try.f61) (a := a_sAt) (nargs := 2) (tbl := []) (by kernel_rfl) (by kernel_rfl) rfl (m := 400) ?_
  show VC.holds _ _ _ (a_sAt.start s_sAt 400 [ap p, ai i])
  rw [t_sAt]
  try simp only [asRows_sl, asInt_int, asBool_bool, asStr_str, listOf_rowsOn, List.drop_zero, Prg.eta, Sta.eta, rowsOn_length, getD_drop, Nat.reduceAdd, rd_int, rd_PMem_name, rd_PMem_secret, rd_PMem_n, rd_PLabel_name, rd_PLabel_at_, rd_Ins_kind, rd_Ins_op, rd_Ins_d, rd_Ins_aR, rd_Ins_aN, rd_Ins_bR, rd_Ins_bN, rd_Ins_name, rd_Ins_target, rd_Ent_pc, rd_Ent_val, rd_Ent_addr, rd_Ent_fro, rd_Ent_next, rd_Ent_done, rd_Ent_known, rd_Ent_fault, rd_Place_reg, rd_Place_n, rd_Place_secret, rd_Obs_kind, rd_Obs_at_, rd_Dir_kind, rd_Dir_n, Prg.of_cells, Sta.of_cells]
  try simp only [c_sAt] at hp
  repeat' first
    | refine br_not ?_
    | refine br_dec (fun _ => ?_) (fun _ => ?_)
    | refine br_beq (fun _ => ?_) (fun _ => ?_)
    | refine br_bne (fun _ => ?_) (fun _ => ?_)
    | refine br_holds (fun _ => ?_) (fun _ => ?_)
    | refine ⟨PreOk.mk ?_ rfl, ?_⟩
    | refine ⟨idx_ok _ _ _ rfl (by omega) (by omega), ?_⟩
    | refine ⟨okSh_ok _ _ _ (fun _ => rfl) (by omega) (by omega), ?_⟩
    | refine ⟨okSh_okD _ _ _ _ (fun _ => rfl) (by omega) (by omega), ?_⟩
    | refine ⟨aload_ok _ _ rfl (fun _ => rfl) (by omega) (by omega), ?_⟩
    | refine ⟨aload_okD _ _ _ rfl (fun _ => rfl) (by omega) (by omega), ?_⟩
    | refine ⟨astore_ok (by assumption) rfl (by omega) (by omega) (by decide), ?_⟩
    | refine ⟨app_ok (by assumption) rfl rfl (by simp only [List.length_cons, List.length_nil]; omega), ?_⟩
    | refine need_holds ?_ fun _ => ?_
    | refine all_holds fun y hy => ?_
    | refine ret_le ?_
  all_goals refine RR.le_of_eq ?_
  · show _ = rins (atS p.ins i)
    unfold atS; rw [if_pos (.inl ‹_›)]; rfl
  · show _ = rins (atS p.ins i)
    unfold atS; rw [if_pos (.inr ‹_›)]; rfl
  · show _ = rins (atS p.ins i)
    unfold atS; rw [if_neg (by omega)]; rfl
noncomputable def v_sAt : Prg × Int → Ins := fun x => atS x.1.ins x.2
noncomputable def sh_sAt : Ins → RR := fun i => rins i
theorem e_sAt (x : Prg × Int) : sh_sAt (v_sAt x) = c_sAt.ans x := rfl
theorem reg_out (s : Sta) {i : Int} (h : i < 0 ∨ 4 ≤ i) : s.reg i = 0 := by
  unfold Sta.reg
  rw [if_neg (by omega), if_neg (by omega), if_neg (by omega), if_neg (by omega)]
theorem maskS_0 (w : Int) : maskS w 0 = 0 := by unfold maskS; split <;> simp
def rdPSI : List A → Prg × Sta × Int
  | [.agg l, .agg s, .c (.int _ i)] => (Prg.of l, Sta.of s, i)
  | _ => default
def c_sReg : FT (Prg × Sta × Int) := ⟨104, fun x => [ap x.1, as_ x.2.1, ai x.2.2], rdPSI, fun _ => True, fun x => ri (maskS x.1.w (x.2.1.reg x.2.2)), false, fun x => by simp [ap, as_, ai, rdPSI]⟩
noncomputable def a_sReg : FnA := (fnA Try.prog Try.f104 3 []).getD ⟨0, .skip, [], []⟩
def s_sReg : Sp := spT [c_wMask.fe]
theorem s_sReg_sound : s_sReg.sound Try.prog := spT_sound fun e he => by
  simp only [List.mem_cons, List.not_mem_nil, or_false] at he
  rcases he with rfl
  · exact c_wMask_good
set_option maxRecDepth 100000 in
theorem t_sReg (p : Prg) (s : Sta) (i : Int) : a_sReg.start s_sReg 400 [ap p, as_ s, ai i] =
(VC.br (decide (i < (0 : Int)))
 (VC.ret (some (RR.c (Rc.d (D.int IntKind.i64 (0 : Int))))))
 (VC.br (decide ((4 : Int) ≤ i))
  (VC.ret (some (RR.c (Rc.d (D.int IntKind.i64 (0 : Int))))))
  (VC.br (decide (i = (0 : Int)))
   (VC.need (PreOk c_wMask (p.w, s.r0) [A.c (D.int IntKind.i64 p.w), A.c (D.int IntKind.i64 s.r0)])
   (VC.ret (some (RR.c (Rc.d (D.int IntKind.i64 (maskS p.w s.r0)))))))
   (VC.br (decide (i = (1 : Int)))
    (VC.need (PreOk c_wMask (p.w, s.r1) [A.c (D.int IntKind.i64 p.w), A.c (D.int IntKind.i64 s.r1)])
    (VC.ret (some (RR.c (Rc.d (D.int IntKind.i64 (maskS p.w s.r1)))))))
    (VC.br (decide (i = (2 : Int)))
     (VC.need (PreOk c_wMask (p.w, s.r2) [A.c (D.int IntKind.i64 p.w), A.c (D.int IntKind.i64 s.r2)])
     (VC.ret (some (RR.c (Rc.d (D.int IntKind.i64 (maskS p.w s.r2)))))))
     (VC.br (decide (i = (3 : Int)))
      (VC.need (PreOk c_wMask (p.w, s.r3) [A.c (D.int IntKind.i64 p.w), A.c (D.int IntKind.i64 s.r3)])
      (VC.ret (some (RR.c (Rc.d (D.int IntKind.i64 (maskS p.w s.r3)))))))
      VC.ff)))))) := by kernel_rfl
theorem c_sReg_good : c_sReg.fe.Good Try.prog := by
  refine FT.good c_sReg ⟨Try.f104, by kernel_rfl, by decide +kernel, by kernel_rfl⟩ (fun ⟨p, s, i⟩ => by first | rfl | simp [c_sReg, rrRef, rnum, rby, rss, rnewI, rnewE, rstab, rplaces, ri, rb, rib, rins, Sta.fresh]) fun ⟨p, s, i⟩ hp => ?_
  refine acalls_le s_sReg_sound (fn := Try.f104) (a := a_sReg) (nargs := 3) (tbl := []) (by kernel_rfl) (by kernel_rfl) rfl (m := 400) ?_
  show VC.holds _ _ _ (a_sReg.start s_sReg 400 [ap p, as_ s, ai i])
  rw [t_sReg]
  try simp only [asRows_sl, asInt_int, asBool_bool, asStr_str, listOf_rowsOn, List.drop_zero, Prg.eta, Sta.eta, rowsOn_length, getD_drop, Nat.reduceAdd, rd_int, rd_PMem_name, rd_PMem_secret, rd_PMem_n, rd_PLabel_name, rd_PLabel_at_, rd_Ins_kind, rd_Ins_op, rd_Ins_d, rd_Ins_aR, rd_Ins_aN, rd_Ins_bR, rd_Ins_bN, rd_Ins_name, rd_Ins_target, rd_Ent_pc, rd_Ent_val, rd_Ent_addr, rd_Ent_fro, rd_Ent_next, rd_Ent_done, rd_Ent_known, rd_Ent_fault, rd_Place_reg, rd_Place_n, rd_Place_secret, rd_Obs_kind, rd_Obs_at_, rd_Dir_kind, rd_Dir_n, Prg.of_cells, Sta.of_cells]
  try simp only [c_sReg] at hp
  repeat' first
    | refine br_not ?_
    | refine br_dec (fun _ => ?_) (fun _ => ?_)
    | refine br_beq (fun _ => ?_) (fun _ => ?_)
    | refine br_bne (fun _ => ?_) (fun _ => ?_)
    | refine br_holds (fun _ => ?_) (fun _ => ?_)
    | refine ⟨PreOk.mk ?_ rfl, ?_⟩
    | refine ⟨idx_ok _ _ _ rfl (by omega) (by omega), ?_⟩
    | refine ⟨okSh_ok _ _ _ (fun _ => rfl) (by omega) (by omega), ?_⟩
    | refine ⟨okSh_okD _ _ _ _ (fun _ => rfl) (by omega) (by omega), ?_⟩
    | refine ⟨aload_ok _ _ rfl (fun _ => rfl) (by omega) (by omega), ?_⟩
    | refine ⟨aload_okD _ _ _ rfl (fun _ => rfl) (by omega) (by omega), ?_⟩
    | refine ⟨astore_ok (by assumption) rfl (by omega) (by omega) (by decide), ?_⟩
    | refine ⟨app_ok (by assumption) rfl rfl (by simp only [List.length_cons, List.length_nil]; omega), ?_⟩
    | refine need_holds ?_ fun _ => ?_
    | refine all_holds fun y hy => ?_
    | refine ret_le ?_
  all_goals try exact trivial
  all_goals try (exfalso; omega)
  · exact RR.le_of_eq (by show _ = ri (maskS p.w (s.reg i)); rw [reg_out s (by omega), maskS_0]; rfl)
  · exact RR.le_of_eq (by show _ = ri (maskS p.w (s.reg i)); rw [reg_out s (by omega), maskS_0]; rfl)
  all_goals subst_vars
  all_goals exact RR.le_refl _
noncomputable def v_sReg : Prg × Sta × Int → Int := fun x => maskS x.1.w (x.2.1.reg x.2.2)
noncomputable def sh_sReg : Int → RR := fun i => ri i
theorem e_sReg (x : Prg × Sta × Int) : sh_sReg (v_sReg x) = c_sReg.ans x := rfl
def rdPSV : List A → Prg × Sta × Bool × Int
  | [.agg l, .agg s, .agg [.bool r, .int _ i]] => (Prg.of l, Sta.of s, r, i)
  | _ => default
def c_sVal : FT (Prg × Sta × Bool × Int) := ⟨103, fun x => [ap x.1, as_ x.2.1, aVal x.2.2.1 x.2.2.2], rdPSV, fun _ => True, fun x => ri (valS x.1.w x.2.1 x.2.2.1 x.2.2.2), false, fun x => by simp [ap, as_, aVal, rdPSV]⟩
noncomputable def a_sVal : FnA := (fnA Try.prog Try.f103 3 []).getD ⟨0, .skip, [], []⟩
noncomputable def s_sVal : Sp := spT [c_wMask.fe, c_sReg.gfe v_sReg sh_sReg e_sReg]
theorem s_sVal_sound : s_sVal.sound Try.prog := spT_sound fun e he => by
  simp only [List.mem_cons, List.not_mem_nil, or_false] at he
  rcases he with rfl | rfl
  · exact c_wMask_good
  · exact FT.gfe_good c_sReg_good
set_option maxRecDepth 100000 in
theorem t_sVal (p : Prg) (s : Sta) (r : Bool) (n : Int) : a_sVal.start s_sVal 400 [ap p, as_ s, aVal r n] =
(VC.br (r)
 (VC.need (PreOk c_sReg (Prg.of (Prg.cells p), Sta.of (Sta.cells s), n) [A.agg (Prg.cells p), A.agg (Sta.cells s), A.c (D.int IntKind.i64 n)])
 (VC.all (v_sReg (Prg.of (Prg.cells p), Sta.of (Sta.cells s), n)) fun (y4 : Int) =>
 (VC.ret (some (RR.c (Rc.d (D.int IntKind.i64 y4)))))))
 (VC.need (PreOk c_wMask (p.w, n) [A.c (D.int IntKind.i64 p.w), A.c (D.int IntKind.i64 n)])
 (VC.ret (some (RR.c (Rc.d (D.int IntKind.i64 (maskS p.w n)))))))) := by kernel_rfl
theorem c_sVal_good : c_sVal.fe.Good Try.prog := by
  refine FT.good c_sVal ⟨Try.f103, by kernel_rfl, by decide +kernel, by kernel_rfl⟩ (fun ⟨p, s, r, n⟩ => by first | rfl | simp [c_sVal, rrRef, rnum, rby, rss, rnewI, rnewE, rstab, rplaces, ri, rb, rib, rins, Sta.fresh]) fun ⟨p, s, r, n⟩ hp => ?_
  refine acalls_le s_sVal_sound (fn := Try.f103) (a := a_sVal) (nargs := 3) (tbl := []) (by kernel_rfl) (by kernel_rfl) rfl (m := 400) ?_
  show VC.holds _ _ _ (a_sVal.start s_sVal 400 [ap p, as_ s, aVal r n])
  rw [t_sVal]
  try simp only [asRows_sl, asInt_int, asBool_bool, asStr_str, listOf_rowsOn, List.drop_zero, Prg.eta, Sta.eta, rowsOn_length, getD_drop, Nat.reduceAdd, rd_int, rd_PMem_name, rd_PMem_secret, rd_PMem_n, rd_PLabel_name, rd_PLabel_at_, rd_Ins_kind, rd_Ins_op, rd_Ins_d, rd_Ins_aR, rd_Ins_aN, rd_Ins_bR, rd_Ins_bN, rd_Ins_name, rd_Ins_target, rd_Ent_pc, rd_Ent_val, rd_Ent_addr, rd_Ent_fro, rd_Ent_next, rd_Ent_done, rd_Ent_known, rd_Ent_fault, rd_Place_reg, rd_Place_n, rd_Place_secret, rd_Obs_kind, rd_Obs_at_, rd_Dir_kind, rd_Dir_n, Prg.of_cells, Sta.of_cells]
  try simp only [c_sVal] at hp
  repeat' first
    | refine br_not ?_
    | refine br_dec (fun _ => ?_) (fun _ => ?_)
    | refine br_beq (fun _ => ?_) (fun _ => ?_)
    | refine br_bne (fun _ => ?_) (fun _ => ?_)
    | refine br_holds (fun _ => ?_) (fun _ => ?_)
    | refine ⟨PreOk.mk ?_ rfl, ?_⟩
    | refine ⟨idx_ok _ _ _ rfl (by omega) (by omega), ?_⟩
    | refine ⟨okSh_ok _ _ _ (fun _ => rfl) (by omega) (by omega), ?_⟩
    | refine ⟨okSh_okD _ _ _ _ (fun _ => rfl) (by omega) (by omega), ?_⟩
    | refine ⟨aload_ok _ _ rfl (fun _ => rfl) (by omega) (by omega), ?_⟩
    | refine ⟨aload_okD _ _ _ rfl (fun _ => rfl) (by omega) (by omega), ?_⟩
    | refine ⟨astore_ok (by assumption) rfl (by omega) (by omega) (by decide), ?_⟩
    | refine ⟨app_ok (by assumption) rfl rfl (by simp only [List.length_cons, List.length_nil]; omega), ?_⟩
    | refine need_holds ?_ fun _ => ?_
    | refine all_holds fun y hy => ?_
    | refine ret_le ?_
  all_goals subst_vars
  all_goals try exact trivial
  all_goals try simp only [Prg.of_cells, Sta.of_cells]
  all_goals first | exact trivial | refine RR.le_of_eq ?_
  all_goals exact (show RR.c (Rc.d (D.int .i64 _)) = RR.c (Rc.d (D.int .i64 (valS p.w s _ n))) from by simp [valS, v_sReg])
noncomputable def v_sVal : Prg × Sta × Bool × Int → Int := fun x => valS x.1.w x.2.1 x.2.2.1 x.2.2.2
noncomputable def sh_sVal : Int → RR := fun i => ri i
theorem e_sVal (x : Prg × Sta × Bool × Int) : sh_sVal (v_sVal x) = c_sVal.ans x := rfl
def rdPIn3 : List A → Prg × Ins × Int × Int × Int
  | [.agg l, .agg s, .c (.int _ a), .c (.int _ b), .c (.int _ d)] => (Prg.of l, Row.of s, a, b, d)
  | _ => default
def c_sValue : FT (Prg × Ins × Int × Int × Int) := ⟨102, fun x => [ap x.1, aIns x.2.1, ai x.2.2.1, ai x.2.2.2.1, ai x.2.2.2.2], rdPIn3, fun _ => True, fun x => ri (valueS x.1.w x.2.1 x.2.2.1 x.2.2.2.1 x.2.2.2.2), false, fun x => by simp [ap, aIns, ai, rdPIn3, Row.of_row]⟩
noncomputable def a_sValue : FnA := (fnA Try.prog Try.f102 5 []).getD ⟨0, .skip, [], []⟩
def s_sValue : Sp := spT [c_wDo.fe]
theorem s_sValue_sound : s_sValue.sound Try.prog := spT_sound fun e he => by
  simp only [List.mem_cons, List.not_mem_nil, or_false] at he
  rcases he with rfl
  · exact c_wDo_good
set_option maxRecDepth 100000 in
theorem t_sValue (p : Prg) (i : Ins) (a b d : Int) : a_sValue.start s_sValue 400 [ap p, aIns i, ai a, ai b, ai d] =
(VC.br (i.kind == (4 : Int))
 (VC.br (a != (0 : Int))
  (VC.ret (some (RR.c (Rc.d (D.int IntKind.i64 b)))))
  (VC.ret (some (RR.c (Rc.d (D.int IntKind.i64 d))))))
 (VC.need (PreOk c_wDo (p.w, i.op, a, b) [A.c (D.int IntKind.i64 p.w), A.c (D.int IntKind.i64 i.op), A.c (D.int IntKind.i64 a), A.c (D.int IntKind.i64 b)])
 (VC.ret (some (RR.c (Rc.d (D.int IntKind.i64 (doS p.w i.op a b).fst))))))) := by kernel_rfl
theorem c_sValue_good : c_sValue.fe.Good Try.prog := by
  refine FT.good c_sValue ⟨Try.f102, by kernel_rfl, by decide +kernel, by kernel_rfl⟩ (fun ⟨p, i, a, b, d⟩ => by first | rfl | simp [c_sValue, rrRef, rnum, rby, rss, rnewI, rnewE, rstab, rplaces, ri, rb, rib, rins, Sta.fresh]) fun ⟨p, i, a, b, d⟩ hp => ?_
  refine acalls_le s_sValue_sound (fn := Try.f102) (a := a_sValue) (nargs := 5) (tbl := []) (by kernel_rfl) (by kernel_rfl) rfl (m := 400) ?_
  show VC.holds _ _ _ (a_sValue.start s_sValue 400 [ap p, aIns i, ai a, ai b, ai d])
  rw [t_sValue]
  try simp only [asRows_sl, asInt_int, asBool_bool, asStr_str, listOf_rowsOn, List.drop_zero, Prg.eta, Sta.eta, rowsOn_length, getD_drop, Nat.reduceAdd, rd_int, rd_PMem_name, rd_PMem_secret, rd_PMem_n, rd_PLabel_name, rd_PLabel_at_, rd_Ins_kind, rd_Ins_op, rd_Ins_d, rd_Ins_aR, rd_Ins_aN, rd_Ins_bR, rd_Ins_bN, rd_Ins_name, rd_Ins_target, rd_Ent_pc, rd_Ent_val, rd_Ent_addr, rd_Ent_fro, rd_Ent_next, rd_Ent_done, rd_Ent_known, rd_Ent_fault, rd_Place_reg, rd_Place_n, rd_Place_secret, rd_Obs_kind, rd_Obs_at_, rd_Dir_kind, rd_Dir_n, Prg.of_cells, Sta.of_cells]
  try simp only [c_sValue] at hp
  repeat' first
    | refine br_not ?_
    | refine br_dec (fun _ => ?_) (fun _ => ?_)
    | refine br_beq (fun _ => ?_) (fun _ => ?_)
    | refine br_bne (fun _ => ?_) (fun _ => ?_)
    | refine br_holds (fun _ => ?_) (fun _ => ?_)
    | refine ⟨PreOk.mk ?_ rfl, ?_⟩
    | refine ⟨idx_ok _ _ _ rfl (by omega) (by omega), ?_⟩
    | refine ⟨okSh_ok _ _ _ (fun _ => rfl) (by omega) (by omega), ?_⟩
    | refine ⟨okSh_okD _ _ _ _ (fun _ => rfl) (by omega) (by omega), ?_⟩
    | refine ⟨aload_ok _ _ rfl (fun _ => rfl) (by omega) (by omega), ?_⟩
    | refine ⟨aload_okD _ _ _ rfl (fun _ => rfl) (by omega) (by omega), ?_⟩
    | refine ⟨astore_ok (by assumption) rfl (by omega) (by omega) (by decide), ?_⟩
    | refine ⟨app_ok (by assumption) rfl rfl (by simp only [List.length_cons, List.length_nil]; omega), ?_⟩
    | refine need_holds ?_ fun _ => ?_
    | refine all_holds fun y hy => ?_
    | refine ret_le ?_
  all_goals try exact trivial
  all_goals refine RR.le_of_eq ?_
  all_goals simp_all [c_sValue, valueS, ri]
noncomputable def v_sValue : Prg × Ins × Int × Int × Int → Int := fun x => valueS x.1.w x.2.1 x.2.2.1 x.2.2.2.1 x.2.2.2.2
noncomputable def sh_sValue : Int → RR := fun i => ri i
theorem e_sValue (x : Prg × Ins × Int × Int × Int) : sh_sValue (v_sValue x) = c_sValue.ans x := rfl
def rdP2 : List A → Prg × Int × Int
  | [.agg l, .c (.int _ a), .c (.int _ b)] => (Prg.of l, a, b)
  | _ => default
def c_sAddr : FT (Prg × Int × Int) := ⟨131, fun x => [ap x.1, ai x.2.1, ai x.2.2], rdP2, fun x => Mems x.1.mems ∧ 0 ≤ x.2.1 ∧ x.2.1 < 65536 ∧ 0 ≤ x.2.2 ∧ x.2.2 < 65536, fun x => rib (maskS x.1.w (x.2.1 + x.2.2), decide (maskS x.1.w (x.2.1 + x.2.2) < cellsS x.1.mems)), false, fun x => by simp [ap, ai, rdP2]⟩
noncomputable def a_sAddr : FnA := (fnA Try.prog Try.f131 3 []).getD ⟨0, .skip, [], []⟩
noncomputable def v_aCells : Prg → Int := fun x => cellsS x.mems
noncomputable def sh_aCells : Int → RR := fun i => ri i
theorem e_aCells (x : Prg) : sh_aCells (v_aCells x) = c_aCells.ans x := rfl
noncomputable def s_sAddr : Sp := spT [c_wMask.fe, c_aCells.gfe v_aCells sh_aCells e_aCells]
theorem s_sAddr_sound : s_sAddr.sound Try.prog := spT_sound fun e he => by
  simp only [List.mem_cons, List.not_mem_nil, or_false] at he
  rcases he with rfl | rfl
  · exact c_wMask_good
  · exact FT.gfe_good c_aCells_good
set_option maxRecDepth 100000 in
theorem t_sAddr (p : Prg) (a b : Int) : a_sAddr.start s_sAddr 400 [ap p, ai a, ai b] =
(VC.need (PreOk c_wMask (p.w, IntKind.wrap IntKind.i64 (a + b)) [A.c (D.int IntKind.i64 p.w), A.c (D.int IntKind.i64 (IntKind.wrap IntKind.i64 (a + b)))])
(VC.need (PreOk c_aCells p [A.agg (Prg.cells p)])
(VC.all (v_aCells { w := p.w, window := p.window, fuel := p.fuel, r0 := p.r0, r1 := p.r1, r2 := p.r2, r3 := p.r3, mems := listOf PMem (rowsOn p.mems), labels := listOf PLabel (rowsOn p.labels), ins := listOf Ins (rowsOn p.ins) }) fun (y3 : Int) =>
(VC.ret (some (RR.tup [Sum.inl (Rc.d (D.int IntKind.i64 (maskS p.w (IntKind.wrap IntKind.i64 (a + b))))), Sum.inl (Rc.d (D.bool (decide (maskS p.w (IntKind.wrap IntKind.i64 (a + b)) < y3))))])))))) := by kernel_rfl
theorem c_sAddr_good : c_sAddr.fe.Good Try.prog := by
  refine FT.good c_sAddr ⟨Try.f131, by kernel_rfl, by decide +kernel, by kernel_rfl⟩ (fun ⟨p, a, b⟩ => by first | rfl | simp [c_sAddr, rrRef, rnum, rby, rss, rnewI, rnewE, rstab, rplaces, ri, rb, rib, rins, Sta.fresh]) fun ⟨p, a, b⟩ hp => ?_
  refine acalls_le s_sAddr_sound (fn := Try.f131) (a := a_sAddr) (nargs := 3) (tbl := []) (by kernel_rfl) (by kernel_rfl) rfl (m := 400) ?_
  show VC.holds _ _ _ (a_sAddr.start s_sAddr 400 [ap p, ai a, ai b])
  rw [t_sAddr]
  try simp only [asRows_sl, asInt_int, asBool_bool, asStr_str, listOf_rowsOn, List.drop_zero, Prg.eta, Sta.eta, rowsOn_length, getD_drop, Nat.reduceAdd, rd_int, rd_PMem_name, rd_PMem_secret, rd_PMem_n, rd_PLabel_name, rd_PLabel_at_, rd_Ins_kind, rd_Ins_op, rd_Ins_d, rd_Ins_aR, rd_Ins_aN, rd_Ins_bR, rd_Ins_bN, rd_Ins_name, rd_Ins_target, rd_Ent_pc, rd_Ent_val, rd_Ent_addr, rd_Ent_fro, rd_Ent_next, rd_Ent_done, rd_Ent_known, rd_Ent_fault, rd_Place_reg, rd_Place_n, rd_Place_secret, rd_Obs_kind, rd_Obs_at_, rd_Dir_kind, rd_Dir_n, Prg.of_cells, Sta.of_cells]
  try simp only [c_sAddr] at hp
  obtain ⟨hm, h1, h2, h3, h4⟩ := hp
  rw [wrap_small (a + b) (by omega) (by omega)]
  repeat' first
    | refine br_not ?_
    | refine br_dec (fun _ => ?_) (fun _ => ?_)
    | refine br_beq (fun _ => ?_) (fun _ => ?_)
    | refine br_bne (fun _ => ?_) (fun _ => ?_)
    | refine br_holds (fun _ => ?_) (fun _ => ?_)
    | refine ⟨PreOk.mk ?_ rfl, ?_⟩
    | refine ⟨idx_ok _ _ _ rfl (by omega) (by omega), ?_⟩
    | refine ⟨okSh_ok _ _ _ (fun _ => rfl) (by omega) (by omega), ?_⟩
    | refine ⟨okSh_okD _ _ _ _ (fun _ => rfl) (by omega) (by omega), ?_⟩
    | refine ⟨aload_ok _ _ rfl (fun _ => rfl) (by omega) (by omega), ?_⟩
    | refine ⟨aload_okD _ _ _ rfl (fun _ => rfl) (by omega) (by omega), ?_⟩
    | refine ⟨astore_ok (by assumption) rfl (by omega) (by omega) (by decide), ?_⟩
    | refine ⟨app_ok (by assumption) rfl rfl (by simp only [List.length_cons, List.length_nil]; omega), ?_⟩
    | refine need_holds ?_ fun _ => ?_
    | refine all_holds fun y hy => ?_
    | refine ret_le ?_
  all_goals subst_vars
  all_goals try exact trivial
  all_goals try simp only [Prg.of_cells, Sta.of_cells]
  all_goals first | exact hm | exact RR.le_of_eq rfl | trace_state
noncomputable def v_sAddr : Prg × Int × Int → Int × Bool := fun x => (maskS x.1.w (x.2.1 + x.2.2), decide (maskS x.1.w (x.2.1 + x.2.2) < cellsS x.1.mems))
noncomputable def sh_sAddr : Int × Bool → RR := fun i => rib i
theorem e_sAddr (x : Prg × Int × Int) : sh_sAddr (v_sAddr x) = c_sAddr.ans x := rfl
def c_sWay : FT (Prg × Ins × Int × Int × Int) := ⟨107, fun x => [ap x.1, aIns x.2.1, ai x.2.2.1, ai x.2.2.2.1, ai x.2.2.2.2], rdPIn3, fun x => -10 ≤ x.2.2.1 ∧ x.2.2.1 ≤ 1000000, fun x => ri (wayS x.1.w x.1.ins.length x.2.1 x.2.2.1 x.2.2.2.1 x.2.2.2.2), false, fun x => by simp [ap, aIns, ai, rdPIn3, Row.of_row]⟩
noncomputable def a_sWay : FnA := (fnA Try.prog Try.f107 5 []).getD ⟨0, .skip, [], []⟩
def s_sWay : Sp := spT [c_wDo.fe]
theorem s_sWay_sound : s_sWay.sound Try.prog := spT_sound fun e he => by
  simp only [List.mem_cons, List.not_mem_nil, or_false] at he
  rcases he with rfl
  · exact c_wDo_good
set_option maxRecDepth 100000 in
theorem t_sWay (p : Prg) (i : Ins) (pc a b : Int) : a_sWay.start s_sWay 400 [ap p, aIns i, ai pc, ai a, ai b] =
(VC.br (i.kind == (7 : Int))
 (VC.ret (some (RR.c (Rc.d (D.int IntKind.i64 (min a (↑(List.length (rowsOn p.ins)) : Int)))))))
 (VC.need (PreOk c_wDo (p.w, i.op, a, b) [A.c (D.int IntKind.i64 p.w), A.c (D.int IntKind.i64 i.op), A.c (D.int IntKind.i64 a), A.c (D.int IntKind.i64 b)])
 (VC.br ((doS p.w i.op a b).fst != (0 : Int))
  (VC.ret (some (RR.c (Rc.d (D.int IntKind.i64 i.target)))))
  (VC.ret (some (RR.c (Rc.d (D.int IntKind.i64 (IntKind.wrap IntKind.i64 (pc + (1 : Int))))))))))) := by kernel_rfl
theorem c_sWay_good : c_sWay.fe.Good Try.prog := by
  refine FT.good c_sWay ⟨Try.f107, by kernel_rfl, by decide +kernel, by kernel_rfl⟩ (fun ⟨p, i, pc, a, b⟩ => by first | rfl | simp [c_sWay, rrRef, rnum, rby, rss, rnewI, rnewE, rstab, rplaces, ri, rb, rib, rins, Sta.fresh]) fun ⟨p, i, pc, a, b⟩ hp => ?_
  refine acalls_le s_sWay_sound (fn := Try.f107) (a := a_sWay) (nargs := 5) (tbl := []) (by kernel_rfl) (by kernel_rfl) rfl (m := 400) ?_
  show VC.holds _ _ _ (a_sWay.start s_sWay 400 [ap p, aIns i, ai pc, ai a, ai b])
  rw [t_sWay]
  try simp only [asRows_sl, asInt_int, asBool_bool, asStr_str, listOf_rowsOn, List.drop_zero, Prg.eta, Sta.eta, rowsOn_length, getD_drop, Nat.reduceAdd, rd_int, rd_PMem_name, rd_PMem_secret, rd_PMem_n, rd_PLabel_name, rd_PLabel_at_, rd_Ins_kind, rd_Ins_op, rd_Ins_d, rd_Ins_aR, rd_Ins_aN, rd_Ins_bR, rd_Ins_bN, rd_Ins_name, rd_Ins_target, rd_Ent_pc, rd_Ent_val, rd_Ent_addr, rd_Ent_fro, rd_Ent_next, rd_Ent_done, rd_Ent_known, rd_Ent_fault, rd_Place_reg, rd_Place_n, rd_Place_secret, rd_Obs_kind, rd_Obs_at_, rd_Dir_kind, rd_Dir_n, Prg.of_cells, Sta.of_cells]
  try simp only [c_sWay] at hp
  obtain ⟨h1, h2⟩ := hp
  rw [wrap_small (pc + 1) (by omega) (by omega)]
  repeat' first
    | refine br_not ?_
    | refine br_dec (fun _ => ?_) (fun _ => ?_)
    | refine br_beq (fun _ => ?_) (fun _ => ?_)
    | refine br_bne (fun _ => ?_) (fun _ => ?_)
    | refine br_holds (fun _ => ?_) (fun _ => ?_)
    | refine ⟨PreOk.mk ?_ rfl, ?_⟩
    | refine ⟨idx_ok _ _ _ rfl (by omega) (by omega), ?_⟩
    | refine ⟨okSh_ok _ _ _ (fun _ => rfl) (by omega) (by omega), ?_⟩
    | refine ⟨okSh_okD _ _ _ _ (fun _ => rfl) (by omega) (by omega), ?_⟩
    | refine ⟨aload_ok _ _ rfl (fun _ => rfl) (by omega) (by omega), ?_⟩
    | refine ⟨aload_okD _ _ _ rfl (fun _ => rfl) (by omega) (by omega), ?_⟩
    | refine ⟨astore_ok (by assumption) rfl (by omega) (by omega) (by decide), ?_⟩
    | refine ⟨app_ok (by assumption) rfl rfl (by simp only [List.length_cons, List.length_nil]; omega), ?_⟩
    | refine need_holds ?_ fun _ => ?_
    | refine all_holds fun y hy => ?_
    | refine ret_le ?_
  all_goals try exact trivial
  all_goals refine RR.le_of_eq ?_
  all_goals simp_all [c_sWay, wayS, ri]
noncomputable def v_sWay : Prg × Ins × Int × Int × Int → Int := fun x => wayS x.1.w x.1.ins.length x.2.1 x.2.2.1 x.2.2.2.1 x.2.2.2.2
noncomputable def sh_sWay : Int → RR := fun i => ri i
theorem e_sWay (x : Prg × Ins × Int × Int × Int) : sh_sWay (v_sWay x) = c_sWay.ans x := rfl
end Go.Proofs.Ytclabjihjopclaa.Ax
end

section
/- One by one: seqm.Step. -/
namespace Go.Proofs.Ytclabjihjopclaa.Ax
open Go.RowKit
set_option linter.unusedVariables false
set_option linter.unusedSimpArgs false
def rstep (x : Sta × List Obs × Int) : RR := .tup [.inr (x.1.cells.map .d), .inl (.d (.sl (rowsOn x.2.1))), .inl (.d (.int .i64 x.2.2))]
def rdPS : List A → Prg × Sta
  | [.agg l, .agg s] => (Prg.of l, Sta.of s)
  | _ => default
def rdSI : List A → Sta × Int
  | [.agg s, .c (.int _ i)] => (Sta.of s, i)
  | _ => default
def jumpS (s : Sta) (to : Int) : Sta × List Obs × Int := ({ s with pc := to }, [⟨3, to⟩], 0)
def c_sJump : FT (Sta × Int) := ⟨106, fun x => [as_ x.1, ai x.2], rdSI, fun _ => True, fun x => rstep (jumpS x.1 x.2), true, fun x => by simp [as_, ai, rdSI]⟩
noncomputable def a_sJump : FnA := (fnA Try.prog Try.f106 2 []).getD ⟨0, .skip, [], []⟩
def s_sJump : Sp := spT []
theorem s_sJump_sound : s_sJump.sound Try.prog := spT_sound fun e he => by cases he
set_option maxRecDepth 100000 in
theorem t_sJump (s : Sta) (i : Int) : a_sJump.start s_sJump 400 [as_ s, ai i] =
(VC.ret (some (RR.tup [Sum.inr [Rc.d (D.int IntKind.i64 s.r0), Rc.d (D.int IntKind.i64 s.r1), Rc.d (D.int IntKind.i64 s.r2), Rc.d (D.int IntKind.i64 s.r3), Rc.d (D.sl (rowsOn s.mem)), Rc.d (D.sl (rowsOn s.stack)), Rc.d (D.int IntKind.i64 i)], Sum.inl (Rc.new (2 : Nat) [[D.int IntKind.i64 (3 : Int), D.int IntKind.i64 i]]), Sum.inl (Rc.d (D.int IntKind.i64 (0 : Int)))]))) := by kernel_rfl
theorem c_sJump_good : c_sJump.fe.Good Try.prog := by
  refine FT.good c_sJump ⟨Try.f106, by kernel_rfl, by decide +kernel, by kernel_rfl⟩ (fun ⟨s, i⟩ => by first | rfl | simp [c_sJump, rrRef, rins, rnum, rby, rss, rnewI, rnewE, rstab, rplaces, ri, rb, rib, rstep, Sta.fresh]) fun ⟨s, i⟩ hp => ?_
  refine acalls_leD s_sJump_sound (fn := Try.f106) (a := a_sJump) (nargs := 2) (tbl := []) (by kernel_rfl) (by kernel_rfl) rfl (m := 400) ?_
  show VC.holds _ _ _ (a_sJump.start s_sJump 400 [as_ s, ai i])
  rw [t_sJump]
  try simp only [asRows_sl, asInt_int, asBool_bool, asStr_str, listOf_rowsOn, List.drop_zero, Prg.eta, Sta.eta, rowsOn_length, getD_drop, Nat.reduceAdd, rd_int, rd_PMem_name, rd_PMem_secret, rd_PMem_n, rd_PLabel_name, rd_PLabel_at_, rd_Ins_kind, rd_Ins_op, rd_Ins_d, rd_Ins_aR, rd_Ins_aN, rd_Ins_bR, rd_Ins_bN, rd_Ins_name, rd_Ins_target, rd_Ent_pc, rd_Ent_val, rd_Ent_addr, rd_Ent_fro, rd_Ent_next, rd_Ent_done, rd_Ent_known, rd_Ent_fault, rd_Place_reg, rd_Place_n, rd_Place_secret, rd_Obs_kind, rd_Obs_at_, rd_Dir_kind, rd_Dir_n, Prg.of_cells, Sta.of_cells]
  try simp only [c_sJump] at hp
  repeat' first
    | refine br_not ?_
    | refine br_dec (fun _ => ?_) (fun _ => ?_)
    | refine br_beq (fun _ => ?_) (fun _ => ?_)
    | refine br_bne (fun _ => ?_) (fun _ => ?_)
    | refine br_holds (fun _ => ?_) (fun _ => ?_)
    | refine ⟨PreOk.mk ?_ rfl, ?_⟩
    | refine ⟨idx_ok _ _ _ rfl (by omega) (by omega), ?_⟩
    | refine ⟨okSh_ok _ _ _ (fun _ => rfl) (by omega) (by omega), ?_⟩
    | refine ⟨okSh_okD _ _ _ _ (fun _ => rfl) (by omega) (by omega), ?_⟩
    | refine ⟨aload_ok _ _ rfl (fun _ => rfl) (by omega) (by omega), ?_⟩
    | refine ⟨aload_okD _ _ _ rfl (fun _ => rfl) (by omega) (by omega), ?_⟩
    | refine ⟨astore_ok (by assumption) rfl (by omega) (by omega) (by decide), ?_⟩
    | refine ⟨app_ok (by assumption) rfl rfl (by simp only [List.length_cons, List.length_nil]; omega), ?_⟩
    | refine need_holds ?_ fun _ => ?_
    | refine all_holds fun y hy => ?_
    | refine ret_leD ?_
  exact RR.le_refl _
noncomputable def v_sJump : Sta × Int → Sta × List Obs × Int := fun x => jumpS x.1 x.2
noncomputable def sh_sJump : Sta × List Obs × Int → RR := fun x => rstep x
theorem e_sJump (x : Sta × Int) : sh_sJump (v_sJump x) = c_sJump.ans x := rfl
def backS (s was : Sta) : Sta × List Obs × Int := if s.stack.length = 0 then (was, [], 2) else jumpS { s with stack := s.stack.dropLast } (rd s.stack (s.stack.length - 1))
def c_sBack : FT (Sta × Sta) := ⟨108, fun x => [as_ x.1, as_ x.2], rdSS, fun x => SmallS x.1, fun x => rstep (backS x.1 x.2), true, fun x => by simp [as_, rdSS]⟩
noncomputable def a_sBack : FnA := (fnA Try.prog Try.f108 2 []).getD ⟨0, .skip, [], []⟩
noncomputable def s_sBack : Sp := spT [c_sJump.gfe v_sJump sh_sJump e_sJump]
theorem s_sBack_sound : s_sBack.sound Try.prog := spT_sound fun e he => by
  simp only [List.mem_cons, List.not_mem_nil, or_false] at he
  rcases he with rfl
  · exact FT.gfe_good c_sJump_good
set_option maxRecDepth 100000 in
theorem t_sBack (s t : Sta) : a_sBack.start s_sBack 400 [as_ s, as_ t] =
(VC.br ((↑(List.length (rowsOn s.stack)) : Int) == (0 : Int))
 (VC.ret (some (RR.tup [Sum.inr [Rc.d (D.int IntKind.i64 t.r0), Rc.d (D.int IntKind.i64 t.r1), Rc.d (D.int IntKind.i64 t.r2), Rc.d (D.int IntKind.i64 t.r3), Rc.d (D.sl (rowsOn t.mem)), Rc.d (D.sl (rowsOn t.stack)), Rc.d (D.int IntKind.i64 t.pc)], Sum.inl Rc.nil, Sum.inl (Rc.d (D.int IntKind.i64 (2 : Int)))])))
 (VC.need ((0 : Int) ≤ IntKind.wrap IntKind.i64 ((↑(List.length (rowsOn s.stack)) : Int) - (1 : Int)) ∧ IntKind.wrap IntKind.i64 ((↑(List.length (rowsOn s.stack)) : Int) - (1 : Int)) < (↑(List.length (rowsOn s.stack)) : Int) ∧ List.length (rowAt (rowsOn s.stack) (Int.toNat (IntKind.wrap IntKind.i64 ((↑(List.length (rowsOn s.stack)) : Int) - (1 : Int))))) = (1 : Nat))
 (VC.need (okSh [Kd.int IntKind.i64] (rowAt (rowsOn s.stack) (Int.toNat (IntKind.wrap IntKind.i64 ((↑(List.length (rowsOn s.stack)) : Int) - (1 : Int))))))
 (VC.need ((List.all (rowsOn s.stack) fun r ↦ List.length r == (1 : Nat)) = true ∧ (0 : Int) ≤ (0 : Int) ∧ (0 : Int) ≤ IntKind.wrap IntKind.i64 ((↑(List.length (rowsOn s.stack)) : Int) - (1 : Int)) ∧ IntKind.wrap IntKind.i64 ((↑(List.length (rowsOn s.stack)) : Int) - (1 : Int)) ≤ (↑(List.length (rowsOn s.stack)) : Int))
 (VC.need (PreOk c_sJump (Sta.of [D.int IntKind.i64 s.r0, D.int IntKind.i64 s.r1, D.int IntKind.i64 s.r2, D.int IntKind.i64 s.r3, D.sl (rowsOn s.mem), D.sl (List.drop (0 : Nat) (List.take (Int.toNat (IntKind.wrap IntKind.i64 ((↑(List.length (rowsOn s.stack)) : Int) - (1 : Int)))) (rowsOn s.stack))), D.int IntKind.i64 s.pc], asInt (List.getD (rowAt (rowsOn s.stack) (Int.toNat (IntKind.wrap IntKind.i64 ((↑(List.length (rowsOn s.stack)) : Int) - (1 : Int))))) (0 : Nat) D.nilp)) [A.agg [D.int IntKind.i64 s.r0, D.int IntKind.i64 s.r1, D.int IntKind.i64 s.r2, D.int IntKind.i64 s.r3, D.sl (rowsOn s.mem), D.sl (List.drop (0 : Nat) (List.take (Int.toNat (IntKind.wrap IntKind.i64 ((↑(List.length (rowsOn s.stack)) : Int) - (1 : Int)))) (rowsOn s.stack))), D.int IntKind.i64 s.pc], A.c (D.int IntKind.i64 (asInt (List.getD (rowAt (rowsOn s.stack) (Int.toNat (IntKind.wrap IntKind.i64 ((↑(List.length (rowsOn s.stack)) : Int) - (1 : Int))))) (0 : Nat) D.nilp)))])
 (VC.all (({ r0 := s.r0, r1 := s.r1, r2 := s.r2, r3 := s.r3, mem := listOf Int (rowsOn s.mem), stack := listOf Int (List.drop (0 : Nat) (List.take (Int.toNat (IntKind.wrap IntKind.i64 ((↑(List.length (rowsOn s.stack)) : Int) - (1 : Int)))) (rowsOn s.stack))), pc := asInt (List.getD (rowAt (rowsOn s.stack) (Int.toNat (IntKind.wrap IntKind.i64 ((↑(List.length (rowsOn s.stack)) : Int) - (1 : Int))))) (0 : Nat) D.nilp) }, [{ kind := (3 : Int), at_ := asInt (List.getD (rowAt (rowsOn s.stack) (Int.toNat (IntKind.wrap IntKind.i64 ((↑(List.length (rowsOn s.stack)) : Int) - (1 : Int))))) (0 : Nat) D.nilp) }], (0 : Int))) fun (y2 : Sta × List Obs × Int) =>
 (VC.ret (some (RR.tup [Sum.inr [Rc.d (D.int IntKind.i64 y2.fst.r0), Rc.d (D.int IntKind.i64 y2.fst.r1), Rc.d (D.int IntKind.i64 y2.fst.r2), Rc.d (D.int IntKind.i64 y2.fst.r3), Rc.d (D.sl (rowsOn y2.fst.mem)), Rc.d (D.sl (rowsOn y2.fst.stack)), Rc.d (D.int IntKind.i64 y2.fst.pc)], Sum.inl (Rc.d (D.sl (rowsOn y2.snd.fst))), Sum.inl (Rc.d (D.int IntKind.i64 y2.snd.snd))]))))))))) := by kernel_rfl
theorem c_sBack_good : c_sBack.fe.Good Try.prog := by
  refine FT.good c_sBack ⟨Try.f108, by kernel_rfl, by decide +kernel, by kernel_rfl⟩ (fun ⟨s, t⟩ => by first | rfl | simp [c_sBack, rrRef, rins, rnum, rby, rss, rnewI, rnewE, rstab, rplaces, ri, rb, rib, rstep, Sta.fresh]) fun ⟨s, t⟩ hp => ?_
  refine acalls_leD s_sBack_sound (fn := Try.f108) (a := a_sBack) (nargs := 2) (tbl := []) (by kernel_rfl) (by kernel_rfl) rfl (m := 400) ?_
  show VC.holds _ _ _ (a_sBack.start s_sBack 400 [as_ s, as_ t])
  rw [t_sBack]
  try simp only [asRows_sl, asInt_int, asBool_bool, asStr_str, listOf_rowsOn, List.drop_zero, Prg.eta, Sta.eta, rowsOn_length, getD_drop, Nat.reduceAdd, rd_int, rd_PMem_name, rd_PMem_secret, rd_PMem_n, rd_PLabel_name, rd_PLabel_at_, rd_Ins_kind, rd_Ins_op, rd_Ins_d, rd_Ins_aR, rd_Ins_aN, rd_Ins_bR, rd_Ins_bN, rd_Ins_name, rd_Ins_target, rd_Ent_pc, rd_Ent_val, rd_Ent_addr, rd_Ent_fro, rd_Ent_next, rd_Ent_done, rd_Ent_known, rd_Ent_fault, rd_Place_reg, rd_Place_n, rd_Place_secret, rd_Obs_kind, rd_Obs_at_, rd_Dir_kind, rd_Dir_n, Prg.of_cells, Sta.of_cells]
  try simp only [c_sBack] at hp
  obtain ⟨h1, h2⟩ := hp
  by_cases h0 : s.stack.length = 0
  · have e : c_sBack.ans (s, t) = rstep (t, [], 2) := congrArg rstep (if_pos h0)
    rw [e]
    repeat' first
      | refine br_not ?_
      | refine br_dec (fun _ => ?_) (fun _ => ?_)
      | refine br_beq (fun _ => ?_) (fun _ => ?_)
      | refine br_bne (fun _ => ?_) (fun _ => ?_)
      | refine br_holds (fun _ => ?_) (fun _ => ?_)
      | refine ⟨PreOk.mk ?_ rfl, ?_⟩
      | refine ⟨idx_ok _ _ _ rfl (by omega) (by omega), ?_⟩
      | refine ⟨okSh_ok _ _ _ (fun _ => rfl) (by omega) (by omega), ?_⟩
      | refine ⟨okSh_okD _ _ _ _ (fun _ => rfl) (by omega) (by omega), ?_⟩
      | refine ⟨aload_ok _ _ rfl (fun _ => rfl) (by omega) (by omega), ?_⟩
      | refine ⟨aload_okD _ _ _ rfl (fun _ => rfl) (by omega) (by omega), ?_⟩
      | refine ⟨astore_ok (by assumption) rfl (by omega) (by omega) (by decide), ?_⟩
      | refine ⟨app_ok (by assumption) rfl rfl (by simp only [List.length_cons, List.length_nil]; omega), ?_⟩
      | refine need_holds ?_ fun _ => ?_
      | refine all_holds fun y hy => ?_
      | refine ret_leD ?_
    all_goals try (exfalso; omega)
    all_goals exact RR.le_of_eq rfl
  · have e : c_sBack.ans (s, t) = rstep (jumpS { s with stack := s.stack.dropLast } (rd s.stack (s.stack.length - 1))) := congrArg rstep (if_neg h0)
    rw [e, wrap_small (s.stack.length - 1 : Int) (by omega) (by omega)]
    have et : List.take (Int.toNat ((s.stack.length : Int) - 1)) (rowsOn s.stack) = rowsOn s.stack.dropLast := by
      rw [show Int.toNat ((s.stack.length : Int) - 1) = s.stack.length - 1 by omega, List.dropLast_eq_take]
      unfold rowsOn
      rw [List.map_take]
    rw [et]
    have ec : (Sta.of [.int .i64 s.r0, .int .i64 s.r1, .int .i64 s.r2, .int .i64 s.r3, .sl (rowsOn s.mem), .sl (rowsOn s.stack.dropLast), .int .i64 s.pc]) = { s with stack := s.stack.dropLast } := by simp [Sta.of]
    rw [ec]
    repeat' first
      | refine br_not ?_
      | refine br_dec (fun _ => ?_) (fun _ => ?_)
      | refine br_beq (fun _ => ?_) (fun _ => ?_)
      | refine br_bne (fun _ => ?_) (fun _ => ?_)
      | refine br_holds (fun _ => ?_) (fun _ => ?_)
      | refine ⟨PreOk.mk ?_ rfl, ?_⟩
      | refine ⟨idx_ok _ _ _ rfl (by omega) (by omega), ?_⟩
      | refine ⟨okSh_ok _ _ _ (fun _ => rfl) (by omega) (by omega), ?_⟩
      | refine ⟨okSh_okD _ _ _ _ (fun _ => rfl) (by omega) (by omega), ?_⟩
      | refine ⟨aload_ok _ _ rfl (fun _ => rfl) (by omega) (by omega), ?_⟩
      | refine ⟨aload_okD _ _ _ rfl (fun _ => rfl) (by omega) (by omega), ?_⟩
      | refine ⟨astore_ok (by assumption) rfl (by omega) (by omega) (by decide), ?_⟩
      | refine ⟨app_ok (by assumption) rfl rfl (by simp only [List.length_cons, List.length_nil]; omega), ?_⟩
      | refine need_holds ?_ fun _ => ?_
      | refine all_holds fun y hy => ?_
      | refine ret_leD ?_
    all_goals try (exfalso; omega)
    all_goals try exact idx_ok _ _ _ rfl (by omega) (by omega)
    · exact ⟨all1 _, by omega, by omega, by omega⟩
    · exact trivial
    · subst_vars
      refine RR.le_of_eq ?_
      simp [RR.data, Rc.data, rstep, jumpS, Sta.cells]
noncomputable def v_sBack : Sta × Sta → Sta × List Obs × Int := fun x => backS x.1 x.2
noncomputable def sh_sBack : Sta × List Obs × Int → RR := fun x => rstep x
theorem e_sBack (x : Sta × Sta) : sh_sBack (v_sBack x) = c_sBack.ans x := rfl
/-- seqm.put and touch are run in their callers' places. -/
noncomputable def Z_t : Zo := mkZ Try.prog 200000 [(101, ⟨300000, fun _ => none, fun _ => none⟩)]
noncomputable def Z_step : Zo := mkZ Try.prog 0 [(101, ⟨100000, fun _ => none, fun _ => none⟩), (105, Z_t)]
theorem Z_step_ok : ZOK Try.prog 2 Z_step := zok_mk fun p hp => by
  simp only [List.mem_cons, List.not_mem_nil, or_false] at hp
  rcases hp with rfl | rfl
  · exact zok_none _ _ _
  · exact zok_mk fun p hp => by
      simp only [List.mem_cons, List.not_mem_nil, or_false] at hp
      subst hp
      exact zok_none _ _ _
noncomputable def v_aStill : Sta × Unit → Sta := fun x => x.1
noncomputable def sh_aStill : Sta → RR := fun s => .agg s.fresh
theorem e_aStill (x : Sta × Unit) : sh_aStill (v_aStill x) = c_aStill.ans x := rfl
noncomputable def a_step : FnA := (fnAZ Try.prog Z_step Try.f57 2 []).getD ⟨0, .skip, [], []⟩
noncomputable def s_step : Sp := spT [c_aStill.gfe v_aStill sh_aStill e_aStill, c_sAt.gfe v_sAt sh_sAt e_sAt, c_sVal.gfe v_sVal sh_sVal e_sVal, c_sReg.gfe v_sReg sh_sReg e_sReg, c_sValue.gfe v_sValue sh_sValue e_sValue, c_sAddr.gfe v_sAddr sh_sAddr e_sAddr, c_sWay.gfe v_sWay sh_sWay e_sWay, c_sJump.gfe v_sJump sh_sJump e_sJump, c_sBack.gfe v_sBack sh_sBack e_sBack]
theorem s_step_sound : s_step.sound Try.prog := spT_sound fun e he => by
  simp only [List.mem_cons, List.not_mem_nil, or_false] at he
  rcases he with rfl | rfl | rfl | rfl | rfl | rfl | rfl | rfl | rfl
  · exact FT.gfe_good c_aStill_good
  · exact FT.gfe_good c_sAt_good
  · exact FT.gfe_good c_sVal_good
  · exact FT.gfe_good c_sReg_good
  · exact FT.gfe_good c_sValue_good
  · exact FT.gfe_good c_sAddr_good
  · exact FT.gfe_good c_sWay_good
  · exact FT.gfe_good c_sJump_good
  · exact FT.gfe_good c_sBack_good
set_option maxRecDepth 100000 in
theorem t_step (p : Prg) (s : Sta) : a_step.start s_step 400 [ap p, as_ s] =
(VC.need (PreOk c_aStill (Sta.of (Sta.cells s), ()) [A.agg (Sta.cells s)])
(VC.all (v_aStill (Sta.of (Sta.cells s), ())) fun (y2 : Sta) =>
(VC.need (PreOk c_aStill (Sta.of (Sta.cells s), ()) [A.agg (Sta.cells s)])
(VC.all (v_aStill (Sta.of (Sta.cells s), ())) fun (y3 : Sta) =>
(VC.need (PreOk c_sAt (Prg.of (Prg.cells p), y3.pc) [A.agg (Prg.cells p), A.c (D.int IntKind.i64 y3.pc)])
(VC.all (v_sAt (Prg.of (Prg.cells p), y3.pc)) fun (y4 : Ins) =>
(VC.br (y4.kind == (1 : Int))
 (VC.need (PreOk c_sVal (Prg.of (Prg.cells p), Sta.of (Sta.cells y3), y4.aR, y4.aN) [A.agg (Prg.cells p), A.agg (Sta.cells y3), A.agg [D.bool y4.aR, D.int IntKind.i64 y4.aN]])
 (VC.all (v_sVal (Prg.of (Prg.cells p), Sta.of (Sta.cells y3), y4.aR, y4.aN)) fun (y5 : Int) =>
 (VC.need (PreOk c_sVal (Prg.of (Prg.cells p), Sta.of (Sta.cells y3), y4.bR, y4.bN) [A.agg (Prg.cells p), A.agg (Sta.cells y3), A.agg [D.bool y4.bR, D.int IntKind.i64 y4.bN]])
 (VC.all (v_sVal (Prg.of (Prg.cells p), Sta.of (Sta.cells y3), y4.bR, y4.bN)) fun (y6 : Int) =>
 (VC.need (PreOk c_sReg (Prg.of (Prg.cells p), Sta.of (Sta.cells y3), y4.d) [A.agg (Prg.cells p), A.agg (Sta.cells y3), A.c (D.int IntKind.i64 y4.d)])
 (VC.all (v_sReg (Prg.of (Prg.cells p), Sta.of (Sta.cells y3), y4.d)) fun (y7 : Int) =>
 (VC.need (PreOk c_sValue (Prg.of (Prg.cells p), Row.of [D.int IntKind.i64 y4.kind, D.int IntKind.i64 y4.op, D.int IntKind.i64 y4.d, D.bool y4.aR, D.int IntKind.i64 y4.aN, D.bool y4.bR, D.int IntKind.i64 y4.bN, D.str y4.name, D.int IntKind.i64 y4.target], y5, y6, y7) [A.agg (Prg.cells p), A.agg [D.int IntKind.i64 y4.kind, D.int IntKind.i64 y4.op, D.int IntKind.i64 y4.d, D.bool y4.aR, D.int IntKind.i64 y4.aN, D.bool y4.bR, D.int IntKind.i64 y4.bN, D.str y4.name, D.int IntKind.i64 y4.target], A.c (D.int IntKind.i64 y5), A.c (D.int IntKind.i64 y6), A.c (D.int IntKind.i64 y7)])
 (VC.all (v_sValue (Prg.of (Prg.cells p), Row.of [D.int IntKind.i64 y4.kind, D.int IntKind.i64 y4.op, D.int IntKind.i64 y4.d, D.bool y4.aR, D.int IntKind.i64 y4.aN, D.bool y4.bR, D.int IntKind.i64 y4.bN, D.str y4.name, D.int IntKind.i64 y4.target], y5, y6, y7)) fun (y8 : Int) =>
 (VC.br (decide ((0 : Int) ≤ y4.d))
  (VC.br (decide (y4.d < (4 : Int)))
   (VC.br (decide (y4.d = (0 : Int)))
    (VC.ret (some (RR.tup [Sum.inr [Rc.d (D.int IntKind.i64 y8), Rc.d (D.int IntKind.i64 y3.r1), Rc.d (D.int IntKind.i64 y3.r2), Rc.d (D.int IntKind.i64 y3.r3), Rc.new (1 : Nat) (rowsOn y3.mem), Rc.new (1 : Nat) (rowsOn y3.stack), Rc.d (D.int IntKind.i64 (IntKind.wrap IntKind.i64 (y3.pc + (1 : Int))))], Sum.inl Rc.nil, Sum.inl (Rc.d (D.int IntKind.i64 (0 : Int)))])))
    (VC.br (decide (y4.d = (1 : Int)))
     (VC.ret (some (RR.tup [Sum.inr [Rc.d (D.int IntKind.i64 y3.r0), Rc.d (D.int IntKind.i64 y8), Rc.d (D.int IntKind.i64 y3.r2), Rc.d (D.int IntKind.i64 y3.r3), Rc.new (1 : Nat) (rowsOn y3.mem), Rc.new (1 : Nat) (rowsOn y3.stack), Rc.d (D.int IntKind.i64 (IntKind.wrap IntKind.i64 (y3.pc + (1 : Int))))], Sum.inl Rc.nil, Sum.inl (Rc.d (D.int IntKind.i64 (0 : Int)))])))
     (VC.br (decide (y4.d = (2 : Int)))
      (VC.ret (some (RR.tup [Sum.inr [Rc.d (D.int IntKind.i64 y3.r0), Rc.d (D.int IntKind.i64 y3.r1), Rc.d (D.int IntKind.i64 y8), Rc.d (D.int IntKind.i64 y3.r3), Rc.new (1 : Nat) (rowsOn y3.mem), Rc.new (1 : Nat) (rowsOn y3.stack), Rc.d (D.int IntKind.i64 (IntKind.wrap IntKind.i64 (y3.pc + (1 : Int))))], Sum.inl Rc.nil, Sum.inl (Rc.d (D.int IntKind.i64 (0 : Int)))])))
      (VC.br (decide (y4.d = (3 : Int)))
       (VC.ret (some (RR.tup [Sum.inr [Rc.d (D.int IntKind.i64 y3.r0), Rc.d (D.int IntKind.i64 y3.r1), Rc.d (D.int IntKind.i64 y3.r2), Rc.d (D.int IntKind.i64 y8), Rc.new (1 : Nat) (rowsOn y3.mem), Rc.new (1 : Nat) (rowsOn y3.stack), Rc.d (D.int IntKind.i64 (IntKind.wrap IntKind.i64 (y3.pc + (1 : Int))))], Sum.inl Rc.nil, Sum.inl (Rc.d (D.int IntKind.i64 (0 : Int)))])))
       VC.ff))))
   (VC.ret (some (RR.tup [Sum.inr [Rc.d (D.int IntKind.i64 y3.r0), Rc.d (D.int IntKind.i64 y3.r1), Rc.d (D.int IntKind.i64 y3.r2), Rc.d (D.int IntKind.i64 y3.r3), Rc.new (1 : Nat) (rowsOn y3.mem), Rc.new (1 : Nat) (rowsOn y3.stack), Rc.d (D.int IntKind.i64 (IntKind.wrap IntKind.i64 (y3.pc + (1 : Int))))], Sum.inl Rc.nil, Sum.inl (Rc.d (D.int IntKind.i64 (0 : Int)))]))))
  (VC.ret (some (RR.tup [Sum.inr [Rc.d (D.int IntKind.i64 y3.r0), Rc.d (D.int IntKind.i64 y3.r1), Rc.d (D.int IntKind.i64 y3.r2), Rc.d (D.int IntKind.i64 y3.r3), Rc.new (1 : Nat) (rowsOn y3.mem), Rc.new (1 : Nat) (rowsOn y3.stack), Rc.d (D.int IntKind.i64 (IntKind.wrap IntKind.i64 (y3.pc + (1 : Int))))], Sum.inl Rc.nil, Sum.inl (Rc.d (D.int IntKind.i64 (0 : Int)))]))))))))))))
 (VC.br (y4.kind == (4 : Int))
  (VC.need (PreOk c_sVal (Prg.of (Prg.cells p), Sta.of (Sta.cells y3), y4.aR, y4.aN) [A.agg (Prg.cells p), A.agg (Sta.cells y3), A.agg [D.bool y4.aR, D.int IntKind.i64 y4.aN]])
  (VC.all (v_sVal (Prg.of (Prg.cells p), Sta.of (Sta.cells y3), y4.aR, y4.aN)) fun (y5 : Int) =>
  (VC.need (PreOk c_sVal (Prg.of (Prg.cells p), Sta.of (Sta.cells y3), y4.bR, y4.bN) [A.agg (Prg.cells p), A.agg (Sta.cells y3), A.agg [D.bool y4.bR, D.int IntKind.i64 y4.bN]])
  (VC.all (v_sVal (Prg.of (Prg.cells p), Sta.of (Sta.cells y3), y4.bR, y4.bN)) fun (y6 : Int) =>
  (VC.need (PreOk c_sReg (Prg.of (Prg.cells p), Sta.of (Sta.cells y3), y4.d) [A.agg (Prg.cells p), A.agg (Sta.cells y3), A.c (D.int IntKind.i64 y4.d)])
  (VC.all (v_sReg (Prg.of (Prg.cells p), Sta.of (Sta.cells y3), y4.d)) fun (y7 : Int) =>
  (VC.need (PreOk c_sValue (Prg.of (Prg.cells p), Row.of [D.int IntKind.i64 y4.kind, D.int IntKind.i64 y4.op, D.int IntKind.i64 y4.d, D.bool y4.aR, D.int IntKind.i64 y4.aN, D.bool y4.bR, D.int IntKind.i64 y4.bN, D.str y4.name, D.int IntKind.i64 y4.target], y5, y6, y7) [A.agg (Prg.cells p), A.agg [D.int IntKind.i64 y4.kind, D.int IntKind.i64 y4.op, D.int IntKind.i64 y4.d, D.bool y4.aR, D.int IntKind.i64 y4.aN, D.bool y4.bR, D.int IntKind.i64 y4.bN, D.str y4.name, D.int IntKind.i64 y4.target], A.c (D.int IntKind.i64 y5), A.c (D.int IntKind.i64 y6), A.c (D.int IntKind.i64 y7)])
  (VC.all (v_sValue (Prg.of (Prg.cells p), Row.of [D.int IntKind.i64 y4.kind, D.int IntKind.i64 y4.op, D.int IntKind.i64 y4.d, D.bool y4.aR, D.int IntKind.i64 y4.aN, D.bool y4.bR, D.int IntKind.i64 y4.bN, D.str y4.name, D.int IntKind.i64 y4.target], y5, y6, y7)) fun (y8 : Int) =>
  (VC.br (decide ((0 : Int) ≤ y4.d))
   (VC.br (decide (y4.d < (4 : Int)))
    (VC.br (decide (y4.d = (0 : Int)))
     (VC.ret (some (RR.tup [Sum.inr [Rc.d (D.int IntKind.i64 y8), Rc.d (D.int IntKind.i64 y3.r1), Rc.d (D.int IntKind.i64 y3.r2), Rc.d (D.int IntKind.i64 y3.r3), Rc.new (1 : Nat) (rowsOn y3.mem), Rc.new (1 : Nat) (rowsOn y3.stack), Rc.d (D.int IntKind.i64 (IntKind.wrap IntKind.i64 (y3.pc + (1 : Int))))], Sum.inl Rc.nil, Sum.inl (Rc.d (D.int IntKind.i64 (0 : Int)))])))
     (VC.br (decide (y4.d = (1 : Int)))
      (VC.ret (some (RR.tup [Sum.inr [Rc.d (D.int IntKind.i64 y3.r0), Rc.d (D.int IntKind.i64 y8), Rc.d (D.int IntKind.i64 y3.r2), Rc.d (D.int IntKind.i64 y3.r3), Rc.new (1 : Nat) (rowsOn y3.mem), Rc.new (1 : Nat) (rowsOn y3.stack), Rc.d (D.int IntKind.i64 (IntKind.wrap IntKind.i64 (y3.pc + (1 : Int))))], Sum.inl Rc.nil, Sum.inl (Rc.d (D.int IntKind.i64 (0 : Int)))])))
      (VC.br (decide (y4.d = (2 : Int)))
       (VC.ret (some (RR.tup [Sum.inr [Rc.d (D.int IntKind.i64 y3.r0), Rc.d (D.int IntKind.i64 y3.r1), Rc.d (D.int IntKind.i64 y8), Rc.d (D.int IntKind.i64 y3.r3), Rc.new (1 : Nat) (rowsOn y3.mem), Rc.new (1 : Nat) (rowsOn y3.stack), Rc.d (D.int IntKind.i64 (IntKind.wrap IntKind.i64 (y3.pc + (1 : Int))))], Sum.inl Rc.nil, Sum.inl (Rc.d (D.int IntKind.i64 (0 : Int)))])))
       (VC.br (decide (y4.d = (3 : Int)))
        (VC.ret (some (RR.tup [Sum.inr [Rc.d (D.int IntKind.i64 y3.r0), Rc.d (D.int IntKind.i64 y3.r1), Rc.d (D.int IntKind.i64 y3.r2), Rc.d (D.int IntKind.i64 y8), Rc.new (1 : Nat) (rowsOn y3.mem), Rc.new (1 : Nat) (rowsOn y3.stack), Rc.d (D.int IntKind.i64 (IntKind.wrap IntKind.i64 (y3.pc + (1 : Int))))], Sum.inl Rc.nil, Sum.inl (Rc.d (D.int IntKind.i64 (0 : Int)))])))
        VC.ff))))
    (VC.ret (some (RR.tup [Sum.inr [Rc.d (D.int IntKind.i64 y3.r0), Rc.d (D.int IntKind.i64 y3.r1), Rc.d (D.int IntKind.i64 y3.r2), Rc.d (D.int IntKind.i64 y3.r3), Rc.new (1 : Nat) (rowsOn y3.mem), Rc.new (1 : Nat) (rowsOn y3.stack), Rc.d (D.int IntKind.i64 (IntKind.wrap IntKind.i64 (y3.pc + (1 : Int))))], Sum.inl Rc.nil, Sum.inl (Rc.d (D.int IntKind.i64 (0 : Int)))]))))
   (VC.ret (some (RR.tup [Sum.inr [Rc.d (D.int IntKind.i64 y3.r0), Rc.d (D.int IntKind.i64 y3.r1), Rc.d (D.int IntKind.i64 y3.r2), Rc.d (D.int IntKind.i64 y3.r3), Rc.new (1 : Nat) (rowsOn y3.mem), Rc.new (1 : Nat) (rowsOn y3.stack), Rc.d (D.int IntKind.i64 (IntKind.wrap IntKind.i64 (y3.pc + (1 : Int))))], Sum.inl Rc.nil, Sum.inl (Rc.d (D.int IntKind.i64 (0 : Int)))]))))))))))))
  (VC.br (y4.kind == (2 : Int))
   (VC.need (PreOk c_sVal (Prg.of (Prg.cells p), Sta.of (Sta.cells y3), y4.aR, y4.aN) [A.agg (Prg.cells p), A.agg (Sta.cells y3), A.agg [D.bool y4.aR, D.int IntKind.i64 y4.aN]])
   (VC.all (v_sVal (Prg.of (Prg.cells p), Sta.of (Sta.cells y3), y4.aR, y4.aN)) fun (y5 : Int) =>
   (VC.need (PreOk c_sVal (Prg.of (Prg.cells p), Sta.of (Sta.cells y3), y4.bR, y4.bN) [A.agg (Prg.cells p), A.agg (Sta.cells y3), A.agg [D.bool y4.bR, D.int IntKind.i64 y4.bN]])
   (VC.all (v_sVal (Prg.of (Prg.cells p), Sta.of (Sta.cells y3), y4.bR, y4.bN)) fun (y6 : Int) =>
   (VC.need (PreOk c_sAddr (Prg.of (Prg.cells p), y5, y6) [A.agg (Prg.cells p), A.c (D.int IntKind.i64 y5), A.c (D.int IntKind.i64 y6)])
   (VC.all ((maskS p.w (y5 + y6), decide (maskS p.w (y5 + y6) < cellsS (listOf PMem (rowsOn p.mems))))) fun (y7 : Int × Bool) =>
   (VC.br (!y7.snd)
    (VC.ret (some (RR.tup [Sum.inr [Rc.d (D.int IntKind.i64 y2.r0), Rc.d (D.int IntKind.i64 y2.r1), Rc.d (D.int IntKind.i64 y2.r2), Rc.d (D.int IntKind.i64 y2.r3), Rc.new (1 : Nat) (rowsOn y2.mem), Rc.new (1 : Nat) (rowsOn y2.stack), Rc.d (D.int IntKind.i64 y2.pc)], Sum.inl Rc.nil, Sum.inl (Rc.d (D.int IntKind.i64 (2 : Int)))])))
    (VC.br (decide ((↑(List.length (rowsOn y3.mem)) : Int) ≤ y7.fst))
     (VC.ret (some (RR.tup [Sum.inr [Rc.d (D.int IntKind.i64 y2.r0), Rc.d (D.int IntKind.i64 y2.r1), Rc.d (D.int IntKind.i64 y2.r2), Rc.d (D.int IntKind.i64 y2.r3), Rc.new (1 : Nat) (rowsOn y2.mem), Rc.new (1 : Nat) (rowsOn y2.stack), Rc.d (D.int IntKind.i64 y2.pc)], Sum.inl Rc.nil, Sum.inl (Rc.d (D.int IntKind.i64 (2 : Int)))])))
     (VC.br (y4.kind == (2 : Int))
      (VC.need ((0 : Int) ≤ y7.fst ∧ y7.fst < (↑(List.length (rowsOn y3.mem)) : Int))
      (VC.need (Int.toNat y7.fst < List.length (rowsOn y3.mem) ∧ List.length (rowAt (rowsOn y3.mem) (Int.toNat y7.fst)) = (1 : Nat) ∧ okSh [Kd.int IntKind.i64] (List.drop (0 : Nat) (rowAt (rowsOn y3.mem) (Int.toNat y7.fst))))
      (VC.br (decide ((0 : Int) ≤ y4.d))
       (VC.br (decide (y4.d < (4 : Int)))
        (VC.br (decide (y4.d = (0 : Int)))
         (VC.ret (some (RR.tup [Sum.inr [Rc.d (D.int IntKind.i64 (asInt (List.getD (List.drop (0 : Nat) (rowAt (rowsOn y3.mem) (Int.toNat y7.fst))) (0 : Nat) D.nilp))), Rc.d (D.int IntKind.i64 y3.r1), Rc.d (D.int IntKind.i64 y3.r2), Rc.d (D.int IntKind.i64 y3.r3), Rc.new (1 : Nat) (rowsOn y3.mem), Rc.new (1 : Nat) (rowsOn y3.stack), Rc.d (D.int IntKind.i64 (IntKind.wrap IntKind.i64 (y3.pc + (1 : Int))))], Sum.inl (Rc.new (2 : Nat) [[D.int IntKind.i64 (1 : Int), D.int IntKind.i64 y7.fst]]), Sum.inl (Rc.d (D.int IntKind.i64 (0 : Int)))])))
         (VC.br (decide (y4.d = (1 : Int)))
          (VC.ret (some (RR.tup [Sum.inr [Rc.d (D.int IntKind.i64 y3.r0), Rc.d (D.int IntKind.i64 (asInt (List.getD (List.drop (0 : Nat) (rowAt (rowsOn y3.mem) (Int.toNat y7.fst))) (0 : Nat) D.nilp))), Rc.d (D.int IntKind.i64 y3.r2), Rc.d (D.int IntKind.i64 y3.r3), Rc.new (1 : Nat) (rowsOn y3.mem), Rc.new (1 : Nat) (rowsOn y3.stack), Rc.d (D.int IntKind.i64 (IntKind.wrap IntKind.i64 (y3.pc + (1 : Int))))], Sum.inl (Rc.new (2 : Nat) [[D.int IntKind.i64 (1 : Int), D.int IntKind.i64 y7.fst]]), Sum.inl (Rc.d (D.int IntKind.i64 (0 : Int)))])))
          (VC.br (decide (y4.d = (2 : Int)))
           (VC.ret (some (RR.tup [Sum.inr [Rc.d (D.int IntKind.i64 y3.r0), Rc.d (D.int IntKind.i64 y3.r1), Rc.d (D.int IntKind.i64 (asInt (List.getD (List.drop (0 : Nat) (rowAt (rowsOn y3.mem) (Int.toNat y7.fst))) (0 : Nat) D.nilp))), Rc.d (D.int IntKind.i64 y3.r3), Rc.new (1 : Nat) (rowsOn y3.mem), Rc.new (1 : Nat) (rowsOn y3.stack), Rc.d (D.int IntKind.i64 (IntKind.wrap IntKind.i64 (y3.pc + (1 : Int))))], Sum.inl (Rc.new (2 : Nat) [[D.int IntKind.i64 (1 : Int), D.int IntKind.i64 y7.fst]]), Sum.inl (Rc.d (D.int IntKind.i64 (0 : Int)))])))
           (VC.br (decide (y4.d = (3 : Int)))
            (VC.ret (some (RR.tup [Sum.inr [Rc.d (D.int IntKind.i64 y3.r0), Rc.d (D.int IntKind.i64 y3.r1), Rc.d (D.int IntKind.i64 y3.r2), Rc.d (D.int IntKind.i64 (asInt (List.getD (List.drop (0 : Nat) (rowAt (rowsOn y3.mem) (Int.toNat y7.fst))) (0 : Nat) D.nilp))), Rc.new (1 : Nat) (rowsOn y3.mem), Rc.new (1 : Nat) (rowsOn y3.stack), Rc.d (D.int IntKind.i64 (IntKind.wrap IntKind.i64 (y3.pc + (1 : Int))))], Sum.inl (Rc.new (2 : Nat) [[D.int IntKind.i64 (1 : Int), D.int IntKind.i64 y7.fst]]), Sum.inl (Rc.d (D.int IntKind.i64 (0 : Int)))])))
            VC.ff))))
        (VC.ret (some (RR.tup [Sum.inr [Rc.d (D.int IntKind.i64 y3.r0), Rc.d (D.int IntKind.i64 y3.r1), Rc.d (D.int IntKind.i64 y3.r2), Rc.d (D.int IntKind.i64 y3.r3), Rc.new (1 : Nat) (rowsOn y3.mem), Rc.new (1 : Nat) (rowsOn y3.stack), Rc.d (D.int IntKind.i64 (IntKind.wrap IntKind.i64 (y3.pc + (1 : Int))))], Sum.inl (Rc.new (2 : Nat) [[D.int IntKind.i64 (1 : Int), D.int IntKind.i64 y7.fst]]), Sum.inl (Rc.d (D.int IntKind.i64 (0 : Int)))]))))
       (VC.ret (some (RR.tup [Sum.inr [Rc.d (D.int IntKind.i64 y3.r0), Rc.d (D.int IntKind.i64 y3.r1), Rc.d (D.int IntKind.i64 y3.r2), Rc.d (D.int IntKind.i64 y3.r3), Rc.new (1 : Nat) (rowsOn y3.mem), Rc.new (1 : Nat) (rowsOn y3.stack), Rc.d (D.int IntKind.i64 (IntKind.wrap IntKind.i64 (y3.pc + (1 : Int))))], Sum.inl (Rc.new (2 : Nat) [[D.int IntKind.i64 (1 : Int), D.int IntKind.i64 y7.fst]]), Sum.inl (Rc.d (D.int IntKind.i64 (0 : Int)))]))))))
      (VC.need (PreOk c_sReg (Prg.of (Prg.cells p), Sta.of [D.int IntKind.i64 y3.r0, D.int IntKind.i64 y3.r1, D.int IntKind.i64 y3.r2, D.int IntKind.i64 y3.r3, D.sl (rowsOn y3.mem), D.sl (rowsOn y3.stack), D.int IntKind.i64 (IntKind.wrap IntKind.i64 (y3.pc + (1 : Int)))], y4.d) [A.agg (Prg.cells p), A.agg [D.int IntKind.i64 y3.r0, D.int IntKind.i64 y3.r1, D.int IntKind.i64 y3.r2, D.int IntKind.i64 y3.r3, D.sl (rowsOn y3.mem), D.sl (rowsOn y3.stack), D.int IntKind.i64 (IntKind.wrap IntKind.i64 (y3.pc + (1 : Int)))], A.c (D.int IntKind.i64 y4.d)])
      (VC.all (v_sReg (Prg.of (Prg.cells p), Sta.of [D.int IntKind.i64 y3.r0, D.int IntKind.i64 y3.r1, D.int IntKind.i64 y3.r2, D.int IntKind.i64 y3.r3, D.sl (rowsOn y3.mem), D.sl (rowsOn y3.stack), D.int IntKind.i64 (IntKind.wrap IntKind.i64 (y3.pc + (1 : Int)))], y4.d)) fun (y8 : Int) =>
      (VC.need ((0 : Int) ≤ y7.fst ∧ y7.fst < (↑(List.length (rowsOn y3.mem)) : Int))
      (VC.need (Int.toNat y7.fst < List.length (rowsOn y3.mem) ∧ List.length (rowAt (rowsOn y3.mem) (Int.toNat y7.fst)) = (1 : Nat) ∧ (1 : Nat) ≤ (1 : Nat))
      (VC.ret (some (RR.tup [Sum.inr [Rc.d (D.int IntKind.i64 y3.r0), Rc.d (D.int IntKind.i64 y3.r1), Rc.d (D.int IntKind.i64 y3.r2), Rc.d (D.int IntKind.i64 y3.r3), Rc.new (1 : Nat) (List.set (rowsOn y3.mem) (Int.toNat y7.fst) (splice (rowAt (rowsOn y3.mem) (Int.toNat y7.fst)) (0 : Nat) [D.int IntKind.i64 y8])), Rc.new (1 : Nat) (rowsOn y3.stack), Rc.d (D.int IntKind.i64 (IntKind.wrap IntKind.i64 (y3.pc + (1 : Int))))], Sum.inl (Rc.new (2 : Nat) [[D.int IntKind.i64 (2 : Int), D.int IntKind.i64 y7.fst]]), Sum.inl (Rc.d (D.int IntKind.i64 (0 : Int)))]))))))))))))))))
   (VC.br (y4.kind == (3 : Int))
    (VC.need (PreOk c_sVal (Prg.of (Prg.cells p), Sta.of (Sta.cells y3), y4.aR, y4.aN) [A.agg (Prg.cells p), A.agg (Sta.cells y3), A.agg [D.bool y4.aR, D.int IntKind.i64 y4.aN]])
    (VC.all (v_sVal (Prg.of (Prg.cells p), Sta.of (Sta.cells y3), y4.aR, y4.aN)) fun (y5 : Int) =>
    (VC.need (PreOk c_sVal (Prg.of (Prg.cells p), Sta.of (Sta.cells y3), y4.bR, y4.bN) [A.agg (Prg.cells p), A.agg (Sta.cells y3), A.agg [D.bool y4.bR, D.int IntKind.i64 y4.bN]])
    (VC.all (v_sVal (Prg.of (Prg.cells p), Sta.of (Sta.cells y3), y4.bR, y4.bN)) fun (y6 : Int) =>
    (VC.need (PreOk c_sAddr (Prg.of (Prg.cells p), y5, y6) [A.agg (Prg.cells p), A.c (D.int IntKind.i64 y5), A.c (D.int IntKind.i64 y6)])
    (VC.all ((maskS p.w (y5 + y6), decide (maskS p.w (y5 + y6) < cellsS (listOf PMem (rowsOn p.mems))))) fun (y7 : Int × Bool) =>
    (VC.br (!y7.snd)
     (VC.ret (some (RR.tup [Sum.inr [Rc.d (D.int IntKind.i64 y2.r0), Rc.d (D.int IntKind.i64 y2.r1), Rc.d (D.int IntKind.i64 y2.r2), Rc.d (D.int IntKind.i64 y2.r3), Rc.new (1 : Nat) (rowsOn y2.mem), Rc.new (1 : Nat) (rowsOn y2.stack), Rc.d (D.int IntKind.i64 y2.pc)], Sum.inl Rc.nil, Sum.inl (Rc.d (D.int IntKind.i64 (2 : Int)))])))
     (VC.br (decide ((↑(List.length (rowsOn y3.mem)) : Int) ≤ y7.fst))
      (VC.ret (some (RR.tup [Sum.inr [Rc.d (D.int IntKind.i64 y2.r0), Rc.d (D.int IntKind.i64 y2.r1), Rc.d (D.int IntKind.i64 y2.r2), Rc.d (D.int IntKind.i64 y2.r3), Rc.new (1 : Nat) (rowsOn y2.mem), Rc.new (1 : Nat) (rowsOn y2.stack), Rc.d (D.int IntKind.i64 y2.pc)], Sum.inl Rc.nil, Sum.inl (Rc.d (D.int IntKind.i64 (2 : Int)))])))
      (VC.br (y4.kind == (2 : Int))
       (VC.need ((0 : Int) ≤ y7.fst ∧ y7.fst < (↑(List.length (rowsOn y3.mem)) : Int))
       (VC.need (Int.toNat y7.fst < List.length (rowsOn y3.mem) ∧ List.length (rowAt (rowsOn y3.mem) (Int.toNat y7.fst)) = (1 : Nat) ∧ okSh [Kd.int IntKind.i64] (List.drop (0 : Nat) (rowAt (rowsOn y3.mem) (Int.toNat y7.fst))))
       (VC.br (decide ((0 : Int) ≤ y4.d))
        (VC.br (decide (y4.d < (4 : Int)))
         (VC.br (decide (y4.d = (0 : Int)))
          (VC.ret (some (RR.tup [Sum.inr [Rc.d (D.int IntKind.i64 (asInt (List.getD (List.drop (0 : Nat) (rowAt (rowsOn y3.mem) (Int.toNat y7.fst))) (0 : Nat) D.nilp))), Rc.d (D.int IntKind.i64 y3.r1), Rc.d (D.int IntKind.i64 y3.r2), Rc.d (D.int IntKind.i64 y3.r3), Rc.new (1 : Nat) (rowsOn y3.mem), Rc.new (1 : Nat) (rowsOn y3.stack), Rc.d (D.int IntKind.i64 (IntKind.wrap IntKind.i64 (y3.pc + (1 : Int))))], Sum.inl (Rc.new (2 : Nat) [[D.int IntKind.i64 (1 : Int), D.int IntKind.i64 y7.fst]]), Sum.inl (Rc.d (D.int IntKind.i64 (0 : Int)))])))
          (VC.br (decide (y4.d = (1 : Int)))
           (VC.ret (some (RR.tup [Sum.inr [Rc.d (D.int IntKind.i64 y3.r0), Rc.d (D.int IntKind.i64 (asInt (List.getD (List.drop (0 : Nat) (rowAt (rowsOn y3.mem) (Int.toNat y7.fst))) (0 : Nat) D.nilp))), Rc.d (D.int IntKind.i64 y3.r2), Rc.d (D.int IntKind.i64 y3.r3), Rc.new (1 : Nat) (rowsOn y3.mem), Rc.new (1 : Nat) (rowsOn y3.stack), Rc.d (D.int IntKind.i64 (IntKind.wrap IntKind.i64 (y3.pc + (1 : Int))))], Sum.inl (Rc.new (2 : Nat) [[D.int IntKind.i64 (1 : Int), D.int IntKind.i64 y7.fst]]), Sum.inl (Rc.d (D.int IntKind.i64 (0 : Int)))])))
           (VC.br (decide (y4.d = (2 : Int)))
            (VC.ret (some (RR.tup [Sum.inr [Rc.d (D.int IntKind.i64 y3.r0), Rc.d (D.int IntKind.i64 y3.r1), Rc.d (D.int IntKind.i64 (asInt (List.getD (List.drop (0 : Nat) (rowAt (rowsOn y3.mem) (Int.toNat y7.fst))) (0 : Nat) D.nilp))), Rc.d (D.int IntKind.i64 y3.r3), Rc.new (1 : Nat) (rowsOn y3.mem), Rc.new (1 : Nat) (rowsOn y3.stack), Rc.d (D.int IntKind.i64 (IntKind.wrap IntKind.i64 (y3.pc + (1 : Int))))], Sum.inl (Rc.new (2 : Nat) [[D.int IntKind.i64 (1 : Int), D.int IntKind.i64 y7.fst]]), Sum.inl (Rc.d (D.int IntKind.i64 (0 : Int)))])))
            (VC.br (decide (y4.d = (3 : Int)))
             (VC.ret (some (RR.tup [Sum.inr [Rc.d (D.int IntKind.i64 y3.r0), Rc.d (D.int IntKind.i64 y3.r1), Rc.d (D.int IntKind.i64 y3.r2), Rc.d (D.int IntKind.i64 (asInt (List.getD (List.drop (0 : Nat) (rowAt (rowsOn y3.mem) (Int.toNat y7.fst))) (0 : Nat) D.nilp))), Rc.new (1 : Nat) (rowsOn y3.mem), Rc.new (1 : Nat) (rowsOn y3.stack), Rc.d (D.int IntKind.i64 (IntKind.wrap IntKind.i64 (y3.pc + (1 : Int))))], Sum.inl (Rc.new (2 : Nat) [[D.int IntKind.i64 (1 : Int), D.int IntKind.i64 y7.fst]]), Sum.inl (Rc.d (D.int IntKind.i64 (0 : Int)))])))
             VC.ff))))
         (VC.ret (some (RR.tup [Sum.inr [Rc.d (D.int IntKind.i64 y3.r0), Rc.d (D.int IntKind.i64 y3.r1), Rc.d (D.int IntKind.i64 y3.r2), Rc.d (D.int IntKind.i64 y3.r3), Rc.new (1 : Nat) (rowsOn y3.mem), Rc.new (1 : Nat) (rowsOn y3.stack), Rc.d (D.int IntKind.i64 (IntKind.wrap IntKind.i64 (y3.pc + (1 : Int))))], Sum.inl (Rc.new (2 : Nat) [[D.int IntKind.i64 (1 : Int), D.int IntKind.i64 y7.fst]]), Sum.inl (Rc.d (D.int IntKind.i64 (0 : Int)))]))))
        (VC.ret (some (RR.tup [Sum.inr [Rc.d (D.int IntKind.i64 y3.r0), Rc.d (D.int IntKind.i64 y3.r1), Rc.d (D.int IntKind.i64 y3.r2), Rc.d (D.int IntKind.i64 y3.r3), Rc.new (1 : Nat) (rowsOn y3.mem), Rc.new (1 : Nat) (rowsOn y3.stack), Rc.d (D.int IntKind.i64 (IntKind.wrap IntKind.i64 (y3.pc + (1 : Int))))], Sum.inl (Rc.new (2 : Nat) [[D.int IntKind.i64 (1 : Int), D.int IntKind.i64 y7.fst]]), Sum.inl (Rc.d (D.int IntKind.i64 (0 : Int)))]))))))
       (VC.need (PreOk c_sReg (Prg.of (Prg.cells p), Sta.of [D.int IntKind.i64 y3.r0, D.int IntKind.i64 y3.r1, D.int IntKind.i64 y3.r2, D.int IntKind.i64 y3.r3, D.sl (rowsOn y3.mem), D.sl (rowsOn y3.stack), D.int IntKind.i64 (IntKind.wrap IntKind.i64 (y3.pc + (1 : Int)))], y4.d) [A.agg (Prg.cells p), A.agg [D.int IntKind.i64 y3.r0, D.int IntKind.i64 y3.r1, D.int IntKind.i64 y3.r2, D.int IntKind.i64 y3.r3, D.sl (rowsOn y3.mem), D.sl (rowsOn y3.stack), D.int IntKind.i64 (IntKind.wrap IntKind.i64 (y3.pc + (1 : Int)))], A.c (D.int IntKind.i64 y4.d)])
       (VC.all (v_sReg (Prg.of (Prg.cells p), Sta.of [D.int IntKind.i64 y3.r0, D.int IntKind.i64 y3.r1, D.int IntKind.i64 y3.r2, D.int IntKind.i64 y3.r3, D.sl (rowsOn y3.mem), D.sl (rowsOn y3.stack), D.int IntKind.i64 (IntKind.wrap IntKind.i64 (y3.pc + (1 : Int)))], y4.d)) fun (y8 : Int) =>
       (VC.need ((0 : Int) ≤ y7.fst ∧ y7.fst < (↑(List.length (rowsOn y3.mem)) : Int))
       (VC.need (Int.toNat y7.fst < List.length (rowsOn y3.mem) ∧ List.length (rowAt (rowsOn y3.mem) (Int.toNat y7.fst)) = (1 : Nat) ∧ (1 : Nat) ≤ (1 : Nat))
       (VC.ret (some (RR.tup [Sum.inr [Rc.d (D.int IntKind.i64 y3.r0), Rc.d (D.int IntKind.i64 y3.r1), Rc.d (D.int IntKind.i64 y3.r2), Rc.d (D.int IntKind.i64 y3.r3), Rc.new (1 : Nat) (List.set (rowsOn y3.mem) (Int.toNat y7.fst) (splice (rowAt (rowsOn y3.mem) (Int.toNat y7.fst)) (0 : Nat) [D.int IntKind.i64 y8])), Rc.new (1 : Nat) (rowsOn y3.stack), Rc.d (D.int IntKind.i64 (IntKind.wrap IntKind.i64 (y3.pc + (1 : Int))))], Sum.inl (Rc.new (2 : Nat) [[D.int IntKind.i64 (2 : Int), D.int IntKind.i64 y7.fst]]), Sum.inl (Rc.d (D.int IntKind.i64 (0 : Int)))]))))))))))))))))
    (VC.br (y4.kind == (5 : Int))
     (VC.need (PreOk c_sVal (Prg.of (Prg.cells p), Sta.of (Sta.cells y3), y4.aR, y4.aN) [A.agg (Prg.cells p), A.agg (Sta.cells y3), A.agg [D.bool y4.aR, D.int IntKind.i64 y4.aN]])
     (VC.all (v_sVal (Prg.of (Prg.cells p), Sta.of (Sta.cells y3), y4.aR, y4.aN)) fun (y5 : Int) =>
     (VC.need (PreOk c_sVal (Prg.of (Prg.cells p), Sta.of (Sta.cells y3), y4.bR, y4.bN) [A.agg (Prg.cells p), A.agg (Sta.cells y3), A.agg [D.bool y4.bR, D.int IntKind.i64 y4.bN]])
     (VC.all (v_sVal (Prg.of (Prg.cells p), Sta.of (Sta.cells y3), y4.bR, y4.bN)) fun (y6 : Int) =>
     (VC.need (PreOk c_sWay (Prg.of (Prg.cells p), Row.of [D.int IntKind.i64 y4.kind, D.int IntKind.i64 y4.op, D.int IntKind.i64 y4.d, D.bool y4.aR, D.int IntKind.i64 y4.aN, D.bool y4.bR, D.int IntKind.i64 y4.bN, D.str y4.name, D.int IntKind.i64 y4.target], y3.pc, y5, y6) [A.agg (Prg.cells p), A.agg [D.int IntKind.i64 y4.kind, D.int IntKind.i64 y4.op, D.int IntKind.i64 y4.d, D.bool y4.aR, D.int IntKind.i64 y4.aN, D.bool y4.bR, D.int IntKind.i64 y4.bN, D.str y4.name, D.int IntKind.i64 y4.target], A.c (D.int IntKind.i64 y3.pc), A.c (D.int IntKind.i64 y5), A.c (D.int IntKind.i64 y6)])
     (VC.all (v_sWay (Prg.of (Prg.cells p), Row.of [D.int IntKind.i64 y4.kind, D.int IntKind.i64 y4.op, D.int IntKind.i64 y4.d, D.bool y4.aR, D.int IntKind.i64 y4.aN, D.bool y4.bR, D.int IntKind.i64 y4.bN, D.str y4.name, D.int IntKind.i64 y4.target], y3.pc, y5, y6)) fun (y7 : Int) =>
     (VC.need (PreOk c_sJump (Sta.of (Sta.cells y3), y7) [A.agg (Sta.cells y3), A.c (D.int IntKind.i64 y7)])
     (VC.all (({ r0 := y3.r0, r1 := y3.r1, r2 := y3.r2, r3 := y3.r3, mem := listOf Int (rowsOn y3.mem), stack := listOf Int (rowsOn y3.stack), pc := y7 }, [{ kind := (3 : Int), at_ := y7 }], (0 : Int))) fun (y8 : Sta × List Obs × Int) =>
     (VC.ret (some (RR.tup [Sum.inr [Rc.d (D.int IntKind.i64 y8.fst.r0), Rc.d (D.int IntKind.i64 y8.fst.r1), Rc.d (D.int IntKind.i64 y8.fst.r2), Rc.d (D.int IntKind.i64 y8.fst.r3), Rc.d (D.sl (rowsOn y8.fst.mem)), Rc.d (D.sl (rowsOn y8.fst.stack)), Rc.d (D.int IntKind.i64 y8.fst.pc)], Sum.inl (Rc.d (D.sl (rowsOn y8.snd.fst))), Sum.inl (Rc.d (D.int IntKind.i64 y8.snd.snd))])))))))))))
     (VC.br (y4.kind == (7 : Int))
      (VC.need (PreOk c_sVal (Prg.of (Prg.cells p), Sta.of (Sta.cells y3), y4.aR, y4.aN) [A.agg (Prg.cells p), A.agg (Sta.cells y3), A.agg [D.bool y4.aR, D.int IntKind.i64 y4.aN]])
      (VC.all (v_sVal (Prg.of (Prg.cells p), Sta.of (Sta.cells y3), y4.aR, y4.aN)) fun (y5 : Int) =>
      (VC.need (PreOk c_sVal (Prg.of (Prg.cells p), Sta.of (Sta.cells y3), y4.bR, y4.bN) [A.agg (Prg.cells p), A.agg (Sta.cells y3), A.agg [D.bool y4.bR, D.int IntKind.i64 y4.bN]])
      (VC.all (v_sVal (Prg.of (Prg.cells p), Sta.of (Sta.cells y3), y4.bR, y4.bN)) fun (y6 : Int) =>
      (VC.need (PreOk c_sWay (Prg.of (Prg.cells p), Row.of [D.int IntKind.i64 y4.kind, D.int IntKind.i64 y4.op, D.int IntKind.i64 y4.d, D.bool y4.aR, D.int IntKind.i64 y4.aN, D.bool y4.bR, D.int IntKind.i64 y4.bN, D.str y4.name, D.int IntKind.i64 y4.target], y3.pc, y5, y6) [A.agg (Prg.cells p), A.agg [D.int IntKind.i64 y4.kind, D.int IntKind.i64 y4.op, D.int IntKind.i64 y4.d, D.bool y4.aR, D.int IntKind.i64 y4.aN, D.bool y4.bR, D.int IntKind.i64 y4.bN, D.str y4.name, D.int IntKind.i64 y4.target], A.c (D.int IntKind.i64 y3.pc), A.c (D.int IntKind.i64 y5), A.c (D.int IntKind.i64 y6)])
      (VC.all (v_sWay (Prg.of (Prg.cells p), Row.of [D.int IntKind.i64 y4.kind, D.int IntKind.i64 y4.op, D.int IntKind.i64 y4.d, D.bool y4.aR, D.int IntKind.i64 y4.aN, D.bool y4.bR, D.int IntKind.i64 y4.bN, D.str y4.name, D.int IntKind.i64 y4.target], y3.pc, y5, y6)) fun (y7 : Int) =>
      (VC.need (PreOk c_sJump (Sta.of (Sta.cells y3), y7) [A.agg (Sta.cells y3), A.c (D.int IntKind.i64 y7)])
      (VC.all (({ r0 := y3.r0, r1 := y3.r1, r2 := y3.r2, r3 := y3.r3, mem := listOf Int (rowsOn y3.mem), stack := listOf Int (rowsOn y3.stack), pc := y7 }, [{ kind := (3 : Int), at_ := y7 }], (0 : Int))) fun (y8 : Sta × List Obs × Int) =>
      (VC.ret (some (RR.tup [Sum.inr [Rc.d (D.int IntKind.i64 y8.fst.r0), Rc.d (D.int IntKind.i64 y8.fst.r1), Rc.d (D.int IntKind.i64 y8.fst.r2), Rc.d (D.int IntKind.i64 y8.fst.r3), Rc.d (D.sl (rowsOn y8.fst.mem)), Rc.d (D.sl (rowsOn y8.fst.stack)), Rc.d (D.int IntKind.i64 y8.fst.pc)], Sum.inl (Rc.d (D.sl (rowsOn y8.snd.fst))), Sum.inl (Rc.d (D.int IntKind.i64 y8.snd.snd))])))))))))))
      (VC.br (y4.kind == (6 : Int))
       (VC.ret (some (RR.tup [Sum.inr [Rc.d (D.int IntKind.i64 y3.r0), Rc.d (D.int IntKind.i64 y3.r1), Rc.d (D.int IntKind.i64 y3.r2), Rc.d (D.int IntKind.i64 y3.r3), Rc.new (1 : Nat) (rowsOn y3.mem), Rc.new (1 : Nat) (rowsOn y3.stack), Rc.d (D.int IntKind.i64 y4.target)], Sum.inl Rc.nil, Sum.inl (Rc.d (D.int IntKind.i64 (0 : Int)))])))
       (VC.br (y4.kind == (8 : Int))
        (VC.br (decide ((4 : Int) ≤ (↑(List.length (rowsOn y3.stack)) : Int)))
         (VC.ret (some (RR.tup [Sum.inr [Rc.d (D.int IntKind.i64 y2.r0), Rc.d (D.int IntKind.i64 y2.r1), Rc.d (D.int IntKind.i64 y2.r2), Rc.d (D.int IntKind.i64 y2.r3), Rc.new (1 : Nat) (rowsOn y2.mem), Rc.new (1 : Nat) (rowsOn y2.stack), Rc.d (D.int IntKind.i64 y2.pc)], Sum.inl Rc.nil, Sum.inl (Rc.d (D.int IntKind.i64 (2 : Int)))])))
         (VC.need ((List.all [[D.int IntKind.i64 (IntKind.wrap IntKind.i64 (y3.pc + (1 : Int)))]] fun r ↦ List.length r == (1 : Nat)) = true ∧ (List.all (rowsOn y3.stack) fun r ↦ List.length r == (1 : Nat)) = true ∧ (List.length (rowsOn y3.stack) + List.length [[D.int IntKind.i64 (IntKind.wrap IntKind.i64 (y3.pc + (1 : Int)))]] + (100 : Nat)) * (9 : Nat) ≤ (70368744177664 : Nat))
         (VC.ret (some (RR.tup [Sum.inr [Rc.d (D.int IntKind.i64 y3.r0), Rc.d (D.int IntKind.i64 y3.r1), Rc.d (D.int IntKind.i64 y3.r2), Rc.d (D.int IntKind.i64 y3.r3), Rc.new (1 : Nat) (rowsOn y3.mem), Rc.new (1 : Nat) (rowsOn y3.stack ++ [[D.int IntKind.i64 (IntKind.wrap IntKind.i64 (y3.pc + (1 : Int)))]]), Rc.d (D.int IntKind.i64 y4.target)], Sum.inl Rc.nil, Sum.inl (Rc.d (D.int IntKind.i64 (0 : Int)))])))))
        (VC.br (y4.kind == (9 : Int))
         (VC.need (PreOk c_sBack (Sta.of (Sta.cells y3), Sta.of (Sta.cells y2)) [A.agg (Sta.cells y3), A.agg (Sta.cells y2)])
         (VC.all (v_sBack (Sta.of (Sta.cells y3), Sta.of (Sta.cells y2))) fun (y5 : Sta × List Obs × Int) =>
         (VC.ret (some (RR.tup [Sum.inr [Rc.d (D.int IntKind.i64 y5.fst.r0), Rc.d (D.int IntKind.i64 y5.fst.r1), Rc.d (D.int IntKind.i64 y5.fst.r2), Rc.d (D.int IntKind.i64 y5.fst.r3), Rc.d (D.sl (rowsOn y5.fst.mem)), Rc.d (D.sl (rowsOn y5.fst.stack)), Rc.d (D.int IntKind.i64 y5.fst.pc)], Sum.inl (Rc.d (D.sl (rowsOn y5.snd.fst))), Sum.inl (Rc.d (D.int IntKind.i64 y5.snd.snd))])))))
         (VC.br (y4.kind == (10 : Int))
          (VC.ret (some (RR.tup [Sum.inr [Rc.d (D.int IntKind.i64 y3.r0), Rc.d (D.int IntKind.i64 y3.r1), Rc.d (D.int IntKind.i64 y3.r2), Rc.d (D.int IntKind.i64 y3.r3), Rc.new (1 : Nat) (rowsOn y3.mem), Rc.new (1 : Nat) (rowsOn y3.stack), Rc.d (D.int IntKind.i64 (IntKind.wrap IntKind.i64 (y3.pc + (1 : Int))))], Sum.inl Rc.nil, Sum.inl (Rc.d (D.int IntKind.i64 (0 : Int)))])))
          (VC.br (y4.kind == (11 : Int))
           (VC.ret (some (RR.tup [Sum.inr [Rc.d (D.int IntKind.i64 y2.r0), Rc.d (D.int IntKind.i64 y2.r1), Rc.d (D.int IntKind.i64 y2.r2), Rc.d (D.int IntKind.i64 y2.r3), Rc.new (1 : Nat) (rowsOn y2.mem), Rc.new (1 : Nat) (rowsOn y2.stack), Rc.d (D.int IntKind.i64 y2.pc)], Sum.inl Rc.nil, Sum.inl (Rc.d (D.int IntKind.i64 (1 : Int)))])))
           (VC.ret (some (RR.tup [Sum.inr [Rc.d (D.int IntKind.i64 y2.r0), Rc.d (D.int IntKind.i64 y2.r1), Rc.d (D.int IntKind.i64 y2.r2), Rc.d (D.int IntKind.i64 y2.r3), Rc.new (1 : Nat) (rowsOn y2.mem), Rc.new (1 : Nat) (rowsOn y2.stack), Rc.d (D.int IntKind.i64 y2.pc)], Sum.inl Rc.nil, Sum.inl (Rc.d (D.int IntKind.i64 (2 : Int)))])))))))))))))))))))) := by kernel_rfl
theorem obs_row (k a : Int) : rowsOn [(⟨k, a⟩ : Obs)] = [[.int .i64 k, .int .i64 a]] := rfl
theorem ins_eta (i : Ins) : (Row.of [D.int .i64 i.kind, .int .i64 i.op, .int .i64 i.d, .bool i.aR, .int .i64 i.aN, .bool i.bR, .int .i64 i.bN, .str i.name, .int .i64 i.target] : Ins) = i := Row.of_row i
theorem valS_range (w : Int) (s : Sta) (r : Bool) (n : Int) : 0 ≤ valS w s r n ∧ valS w s r n < 65536 := by
  unfold valS
  split
  · exact maskS_range _ _
  · exact maskS_range _ _
theorem setReg_out (s : Sta) {r : Int} (n : Int) (h : r < 0 ∨ 4 ≤ r) : s.setReg r n = s := by
  unfold Sta.setReg
  rw [if_neg (by omega), if_neg (by omega), if_neg (by omega), if_neg (by omega)]
theorem at_range {l : List Ins} {pc : Int} (h : (atS l pc).kind ≠ 12) : 0 ≤ pc ∧ pc < l.length := by
  unfold atS at h
  split at h
  · exact absurd rfl h
  · omega
def c_step : FT (Prg × Sta) := ⟨57, fun x => [ap x.1, as_ x.2], rdPS, fun x => Mems x.1.mems ∧ SmallS x.2 ∧ x.1.ins.length ≤ 1000000, fun x => rstep (stepS x.1 x.2), true, fun x => by simp [ap, as_, rdPS]⟩
theorem c_step_good : c_step.fe.Good Try.prog := by
  refine FT.good c_step ⟨Try.f57, by kernel_rfl, by decide +kernel, by kernel_rfl⟩ (fun ⟨p, s⟩ => by first | rfl | simp [c_step, rrRef, rins, rnum, rby, rss, rnewI, rnewE, rstab, rplaces, ri, rb, rib, rstep, Sta.fresh]) fun ⟨p, s⟩ hp => ?_
  refine acalls_leDZ Z_step_ok s_step_sound (fn := Try.f57) (a := a_step) (nargs := 2) (tbl := []) (by kernel_rfl) (by kernel_rfl) rfl (m := 400) ?_
  show VC.holds _ _ _ (a_step.start s_step 400 [ap p, as_ s])
  rw [t_step]
  try simp only [asRows_sl, asInt_int, asBool_bool, asStr_str, listOf_rowsOn, List.drop_zero, Prg.eta, Sta.eta, rowsOn_length, getD_drop, Nat.reduceAdd, rd_int, rd_PMem_name, rd_PMem_secret, rd_PMem_n, rd_PLabel_name, rd_PLabel_at_, rd_Ins_kind, rd_Ins_op, rd_Ins_d, rd_Ins_aR, rd_Ins_aN, rd_Ins_bR, rd_Ins_bN, rd_Ins_name, rd_Ins_target, rd_Ent_pc, rd_Ent_val, rd_Ent_addr, rd_Ent_fro, rd_Ent_next, rd_Ent_done, rd_Ent_known, rd_Ent_fault, rd_Place_reg, rd_Place_n, rd_Place_secret, rd_Obs_kind, rd_Obs_at_, rd_Dir_kind, rd_Dir_n, Prg.of_cells, Sta.of_cells]
  try simp only [c_step] at hp
  obtain ⟨hm, hs, hl⟩ := hp
  have e : c_step.ans (p, s) = rstep (stepS p s) := rfl
  rw [e]
  refine ⟨PreOk.mk hs rfl, all_holds fun y2 e2 => ⟨PreOk.mk hs rfl, all_holds fun y3 e3 => ?_⟩⟩
  replace e2 : s = y2 := e2.symm
  replace e3 : s = y3 := e3.symm
  subst e2
  subst e3
  refine ⟨PreOk.mk trivial rfl, all_holds fun i e4 => ?_⟩
  replace e4 : i = atS p.ins s.pc := e4
  have hr : i.kind ≠ 12 → IntKind.wrap .i64 (s.pc + 1) = s.pc + 1 := fun h => by
    have := at_range (l := p.ins) (pc := s.pc) (by rw [← e4]; exact h)
    exact wrap_small _ (by omega) (by omega)
  repeat' first
    | refine br_not ?_
    | refine br_dec (fun _ => ?_) (fun _ => ?_)
    | refine br_beq (fun _ => ?_) (fun _ => ?_)
    | refine br_bne (fun _ => ?_) (fun _ => ?_)
    | refine br_holds (fun _ => ?_) (fun _ => ?_)
    | refine ⟨PreOk.mk ?_ rfl, ?_⟩
    | refine ⟨idx_ok _ _ _ rfl (by omega) (by omega), ?_⟩
    | refine ⟨okSh_ok _ _ _ (fun _ => rfl) (by omega) (by omega), ?_⟩
    | refine ⟨okSh_okD _ _ _ _ (fun _ => rfl) (by omega) (by omega), ?_⟩
    | refine ⟨aload_ok _ _ rfl (fun _ => rfl) (by omega) (by omega), ?_⟩
    | refine ⟨aload_okD _ _ _ rfl (fun _ => rfl) (by omega) (by omega), ?_⟩
    | refine ⟨astore_ok (by assumption) rfl (by omega) (by omega) (by decide), ?_⟩
    | refine ⟨app_ok (by assumption) rfl rfl (by simp only [List.length_cons, List.length_nil]; omega), ?_⟩
    | refine need_holds ?_ fun _ => ?_
    | refine all_holds fun y hy => ?_
    | refine ret_leD ?_
  all_goals subst_vars
  all_goals try exact trivial
  all_goals try (exfalso; omega)
  all_goals try simp only [v_sValue, v_sVal, v_sReg, v_sAddr, v_sWay, ins_eta] at *
  all_goals try (refine RR.le_of_eq ?_; simp [RR.data, Rc.data, rstep, stepS, Sta.setReg, Sta.cells, v_sJump, v_sBack, rowsOn_nil, obs_row, jumpS, backS, *]; done)
  all_goals try (rename_i h; refine RR.le_of_eq ?_; simp [RR.data, Rc.data, rstep, stepS, setReg_out s _ (show (atS p.ins s.pc).d < 0 ∨ 4 ≤ (atS p.ins s.pc).d by omega), Sta.cells, rowsOn_nil, obs_row, *]; done)
  all_goals try exact ⟨hm, (valS_range ..).1, (valS_range ..).2, (valS_range ..).1, (valS_range ..).2⟩
  all_goals try exact PreOk.mk trivial (by simp [c_sReg, Sta.of, as_, Sta.cells, ap, ai])
  all_goals try exact hs
  all_goals try exact ⟨rfl, all1 _, by simp only [List.length_cons, List.length_nil]; have := hs.2; omega⟩
  all_goals try (have hrg := at_range (l := p.ins) (pc := s.pc) (by rw [show (atS p.ins s.pc).kind = _ from ‹_›]; decide); exact ⟨by dsimp only; omega, by dsimp only; omega⟩)
  all_goals try simp only [← Int.not_lt, Classical.not_not, decide_eq_true_eq, decide_eq_false_iff_not] at *
  all_goals try (have hda := of_decide_eq_true (p := maskS p.w (valS p.w s (atS p.ins s.pc).aR (atS p.ins s.pc).aN + valS p.w s (atS p.ins s.pc).bR (atS p.ins s.pc).bN) < cellsS p.mems) (by assumption))
  all_goals try (have hda := of_decide_eq_false (p := maskS p.w (valS p.w s (atS p.ins s.pc).aR (atS p.ins s.pc).aN + valS p.w s (atS p.ins s.pc).bR (atS p.ins s.pc).bN) < cellsS p.mems) (by assumption))
  all_goals have hA0 := (maskS_range p.w (valS p.w s (atS p.ins s.pc).aR (atS p.ins s.pc).aN + valS p.w s (atS p.ins s.pc).bR (atS p.ins s.pc).bN)).1
  all_goals try exact ⟨by omega, (idx_ok s.mem _ 1 rfl hA0 (by assumption)).2.2, by decide⟩
  all_goals try exact ⟨by have := maskS_range p.w (valS p.w s (atS p.ins s.pc).aR (atS p.ins s.pc).aN + valS p.w s (atS p.ins s.pc).bR (atS p.ins s.pc).bN); omega, by assumption⟩
  all_goals try (refine RR.le_of_eq ?_; simp [RR.data, Rc.data, rstep, stepS, Sta.setReg, Sta.cells, rowsOn_nil, obs_row, *]; done)
  all_goals try (rename_i h; refine RR.le_of_eq ?_; simp [RR.data, Rc.data, rstep, stepS, setReg_out s _ (show (atS p.ins s.pc).d < 0 ∨ 4 ≤ (atS p.ins s.pc).d by omega), Sta.cells, rowsOn_nil, obs_row, *]; done)
  · refine RR.le_of_eq ?_
    simp [RR.data, Rc.data, rstep, stepS, Sta.of, Sta.reg, Sta.cells, rowsOn_nil, obs_row, *]
    exact (OnL.set (R := rowsOn s.mem) (n := s.mem.length) (l := s.mem) ⟨rfl, rfl⟩ hA0 (by assumption) _).1
  · have h4 : 4 ≤ s.stack.length := by omega
    refine RR.le_of_eq ?_
    simp [RR.data, Rc.data, rstep, stepS, Sta.cells, rowsOn_nil, *]
  · have h4 : ¬ 4 ≤ s.stack.length := by omega
    have es : rowsOn s.stack ++ [[D.int .i64 (IntKind.wrap .i64 (s.pc + 1))]] = rowsOn (s.stack ++ [IntKind.wrap .i64 (s.pc + 1)]) := rowsOn_snoc _ _
    refine RR.le_of_eq ?_
    rw [es]
    simp [RR.data, Rc.data, rstep, stepS, Sta.cells, rowsOn_nil, *]
end Go.Proofs.Ytclabjihjopclaa.Ax
end

section
/- Ranges over slices.Backward; awake of layers 10, 11, 19, 23. -/
namespace Go.Proofs.Ytclabjihjopclaa.Ax
open Go.RowKit
set_option linter.unusedVariables false
set_option linter.unusedSimpArgs false
theorem backI_ok : BackOK Try.prog 141 none :=
  backward_ok (fn := Try.f141) (t := 22) (u := 3) (by kernel_rfl) rfl rfl rfl (by kernel_rfl) (by kernel_rfl) (by kernel_rfl) (by kernel_rfl) ⟨rfl, rfl, rfl⟩ ⟨rfl, rfl, rfl⟩ ⟨rfl, rfl, rfl⟩ ⟨rfl, rfl, rfl⟩ ⟨rfl, rfl, rfl⟩ ⟨rfl, rfl, rfl⟩ ⟨rfl, rfl, rfl⟩ ⟨rfl, rfl, rfl⟩ ⟨rfl, rfl, rfl⟩ ⟨rfl, rfl, rfl⟩ ⟨rfl, rfl, rfl⟩ ⟨rfl, rfl, rfl⟩ ⟨rfl, rfl, rfl⟩ ⟨rfl, rfl, rfl⟩ ⟨rfl, rfl, rfl⟩ ⟨rfl, rfl, rfl⟩ ⟨rfl, rfl, rfl⟩
theorem backE_ok : BackOK Try.prog 123 (some 8) :=
  backward_ok (fn := Try.f123) (t := 34) (u := 43) (by kernel_rfl) rfl rfl rfl (by kernel_rfl) (by kernel_rfl) (by kernel_rfl) (by kernel_rfl) ⟨rfl, rfl, rfl⟩ ⟨rfl, rfl, rfl⟩ ⟨rfl, rfl, rfl⟩ ⟨rfl, rfl, rfl⟩ ⟨rfl, rfl, rfl⟩ ⟨rfl, rfl, rfl⟩ ⟨rfl, rfl, rfl⟩ ⟨rfl, rfl, rfl⟩ ⟨rfl, rfl, rfl⟩ ⟨rfl, rfl, rfl⟩ ⟨rfl, rfl, rfl⟩ ⟨rfl, rfl, rfl⟩ ⟨rfl, rfl, rfl⟩ ⟨rfl, rfl, rfl⟩ ⟨rfl, rfl, rfl⟩ ⟨rfl, rfl, rfl⟩ ⟨rfl, rfl, rfl⟩
def kdE : List Kd := [.int .i64, .int .i64, .int .i64, .int .i64, .int .i64, .bool, .bool, .bool]
def bkAll (g : FuncId) : Option (Option Nat × List Kd) := if g = 141 then some (none, [.int .i64]) else if g = 123 then some (some 8, kdE) else none
theorem bkAll_ok : BksOK Try.prog bkAll := by
  intro g sh h
  unfold bkAll at h
  split at h
  · rename_i hg; subst hg; cases h
    exact ⟨backI_ok, ⟨Try.f141, by kernel_rfl, by decide +kernel, by kernel_rfl⟩⟩
  · split at h
    · rename_i hg; subst hg; cases h
      exact ⟨backE_ok, ⟨Try.f123, by kernel_rfl, by decide +kernel, by kernel_rfl⟩⟩
    · cases h
/-- seqm.put, seqm.touch and pair.fill are run in their callers' places. -/
noncomputable def Z_all : Zo := mkZ Try.prog 0 [(101, ⟨100000, fun _ => none, fun _ => none⟩), (105, Z_t), (95, ⟨400000, fun _ => none, fun _ => none⟩)] bkAll
theorem Z_all_ok : ZOK Try.prog 2 Z_all := zok_mk fun p hp => by
  simp only [List.mem_cons, List.not_mem_nil, or_false] at hp
  rcases hp with rfl | rfl | rfl
  · exact zok_none _ _ _
  · exact zok_mk fun p hp => by
      simp only [List.mem_cons, List.not_mem_nil, or_false] at hp
      subst hp
      exact zok_none _ _ _
  · exact zok_none _ _ _
theorem awake10 : ACalls Try.prog 30 [] (.c (.d (.bool true))) ∧ Enters Try.prog 30 :=
  axG_sound (n := 60) Z_all_ok extE_sound bkAll_ok 8 (by kernel_rfl)
theorem awake11 : ACalls Try.prog 27 [] (.c (.d (.bool true))) ∧ Enters Try.prog 27 :=
  axG_sound (n := 60) Z_all_ok extE_sound bkAll_ok 8 (by kernel_rfl)
theorem awake19 : ACalls Try.prog 46 [] (.c (.d (.bool true))) ∧ Enters Try.prog 46 :=
  axG_sound (n := 60) Z_all_ok extE_sound bkAll_ok 8 (by kernel_rfl)
theorem awake23 : ACalls Try.prog 65 [] (.c (.d (.bool true))) ∧ Enters Try.prog 65 :=
  axG_sound (n := 60) Z_all_ok extE_sound bkAll_ok 13 (by kernel_rfl)
def c_awake10 : FT Unit := ⟨30, fun _ => [], rd0, fun _ => True, fun _ => rb true, false, fun _ => rfl⟩
theorem c_awake10_good : c_awake10.fe.Good Try.prog := FT.good c_awake10 awake10.2 (fun _ => rfl) fun _ _ => awake10.1
def c_awake11 : FT Unit := ⟨27, fun _ => [], rd0, fun _ => True, fun _ => rb true, false, fun _ => rfl⟩
theorem c_awake11_good : c_awake11.fe.Good Try.prog := FT.good c_awake11 awake11.2 (fun _ => rfl) fun _ _ => awake11.1
def c_awake19 : FT Unit := ⟨46, fun _ => [], rd0, fun _ => True, fun _ => rb true, false, fun _ => rfl⟩
theorem c_awake19_good : c_awake19.fe.Good Try.prog := FT.good c_awake19 awake19.2 (fun _ => rfl) fun _ _ => awake19.1
def c_awake23 : FT Unit := ⟨65, fun _ => [], rd0, fun _ => True, fun _ => rb true, false, fun _ => rfl⟩
theorem c_awake23_good : c_awake23.fe.Good Try.prog := FT.good c_awake23 awake23.2 (fun _ => rfl) fun _ _ => awake23.1
end Go.Proofs.Ytclabjihjopclaa.Ax
end
