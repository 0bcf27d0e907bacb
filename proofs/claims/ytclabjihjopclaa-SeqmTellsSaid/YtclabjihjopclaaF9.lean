/- States that are compared: slices.Equal, arch.Still, arch.Same, arch.Low. -/
import Derived.Test.YtclabjihjopclaaF8
namespace Go.Proofs.Ytclabjihjopclaa.Ax
open Go.RowKit
set_option linter.unusedVariables false
set_option linter.unusedSimpArgs false
def rdLL : List A → List Int × List Int
  | [.c (.sl r), .c (.sl s)] => (listOf Int r, listOf Int s)
  | _ => default
def c_eqI : FT (List Int × List Int) := ⟨128, fun x => [al x.1, al x.2], rdLL, fun x => x.1.length ≤ 1000000000, fun x => rb (decide (x.1 = x.2)), false, fun x => by simp [al, rdLL]⟩
noncomputable def a_eqI : FnA := (fnA Try.prog Try.f128 2 [(4, [0, 1, 12, 13])]).getD ⟨0, .skip, [], []⟩
def s_eqI : Sp := spT []
theorem s_eqI_sound : s_eqI.sound Try.prog := spT_sound fun e he => by cases he
def F_eqI (a b : List Int) (k : Int) : St := ⟨mkS 26 [(0, vr (rowsOn a)), (1, vr (rowsOn b)), (12, vi (rowsOn a).length), (13, vi k)], []⟩
set_option maxRecDepth 100000 in
theorem t_eqI (a b : List Int) : a_eqI.start s_eqI 400 [al a, al b] =
(VC.br ((↑(List.length (rowsOn a)) : Int) != (↑(List.length (rowsOn b)) : Int))
 (VC.ret (some (RR.c (Rc.d (D.bool false)))))
 (FnA.at_ a_eqI 0 (F_eqI a b (0 : Int)))) := by kernel_rfl
set_option maxRecDepth 100000 in
theorem t_eqI0 (a b : List Int) (k : Int) : a_eqI.round s_eqI 400 0 (F_eqI a b k) =
(VC.br (decide (k < (↑(List.length (rowsOn a)) : Int)))
 (VC.need ((0 : Int) ≤ k ∧ k < (↑(List.length (rowsOn a)) : Int) ∧ List.length (rowAt (rowsOn a) (Int.toNat k)) = (1 : Nat))
 (VC.need (okSh [Kd.int IntKind.i64] (rowAt (rowsOn a) (Int.toNat k)))
 (VC.need ((0 : Int) ≤ k ∧ k < (↑(List.length (rowsOn b)) : Int) ∧ List.length (rowAt (rowsOn b) (Int.toNat k)) = (1 : Nat))
 (VC.need (okSh [Kd.int IntKind.i64] (rowAt (rowsOn b) (Int.toNat k)))
 (VC.br (asInt (List.getD (rowAt (rowsOn a) (Int.toNat k)) (0 : Nat) D.nilp) != asInt (List.getD (rowAt (rowsOn b) (Int.toNat k)) (0 : Nat) D.nilp))
  (VC.ret (some (RR.c (Rc.d (D.bool false)))))
  (FnA.at_ a_eqI 0 (F_eqI a b (IntKind.wrap IntKind.i64 (k + (1 : Int))))))))))
 (VC.ret (some (RR.c (Rc.d (D.bool true)))))) := by kernel_rfl
theorem eq_drop {a b : List Int} {k : Int} (hl : a.length = b.length) (h0 : 0 ≤ k) (h1 : k < a.length) : (a.drop k.toNat = b.drop k.toNat) ↔ rd a k = rd b k ∧ a.drop (k + 1).toNat = b.drop (k + 1).toNat := by
  rw [drop_rd a k h0 h1, drop_rd b k h0 (by omega)]
  simp
theorem rb_le {b c : Bool} (h : b = c) : (rb b).le (rb c) := by subst h; exact rfl
theorem l_eqI0 (a b : List Int) (res : Bool) (hl : a.length = b.length) (hb : a.length ≤ 1000000000) : ∀ i : Int, (fun (i : Int) => 0 ≤ i ∧ i ≤ a.length ∧ decide (a.drop i.toNat = b.drop i.toNat) = res) i → (a_eqI.at_ 0 ((fun (i : Int) => F_eqI a b i) i)).holds s_eqI.cx a_eqI.rs (fun r => r.le (rb res)) := by
  refine loop_rule (a := a_eqI) (j := 0) (m := 400) s_eqI_sound (fun (i : Int) => F_eqI a b i) (fun (i : Int) => 0 ≤ i ∧ i ≤ a.length ∧ decide (a.drop i.toNat = b.drop i.toNat) = res) (fun (i : Int) => ((a.length : Int) - i).toNat) ?_
  rintro k h_inv ih
  try dsimp only at h_inv
  show VC.holds _ _ _ (a_eqI.round s_eqI 400 0 (F_eqI a b k))
  rw [t_eqI0]
  try simp only [asRows_sl, asInt_int, asBool_bool, asStr_str, listOf_rowsOn, List.drop_zero, Prg.eta, Sta.eta, rowsOn_length, getD_drop, Nat.reduceAdd, rd_int, rd_PMem_name, rd_PMem_secret, rd_PMem_n, rd_PLabel_name, rd_PLabel_at_, rd_Ins_kind, rd_Ins_op, rd_Ins_d, rd_Ins_aR, rd_Ins_aN, rd_Ins_bR, rd_Ins_bN, rd_Ins_name, rd_Ins_target, rd_Ent_pc, rd_Ent_val, rd_Ent_addr, rd_Ent_fro, rd_Ent_next, rd_Ent_done, rd_Ent_known, rd_Ent_fault, rd_Place_reg, rd_Place_n, rd_Place_secret, rd_Obs_kind, rd_Obs_at_, rd_Dir_kind, rd_Dir_n]
  obtain ⟨h0, h1, h2⟩ := h_inv
  have w1 : IntKind.wrap .i64 (k + 1) = k + 1 := wrap_small _ (by omega) (by omega)
  rw [w1]
  repeat' first
    | refine br_not ?_
    | refine br_dec (fun _ => ?_) (fun _ => ?_)
    | refine br_beq (fun _ => ?_) (fun _ => ?_)
    | refine br_bne (fun _ => ?_) (fun _ => ?_)
    | refine br_holds (fun _ => ?_) (fun _ => ?_)
    | refine ⟨PreOk.mk ?_ rfl, ?_⟩
    | refine ⟨idx_ok _ _ _ rfl (by omega) (by omega), ?_⟩
    | refine ⟨okSh_ok _ _ _ (fun _ => rfl) (by omega) (by omega), ?_⟩
    | refine ⟨okSh_okD _ _ _ _ (fun _ => rfl) (by omega) (by omega), ?_⟩
    | refine ⟨aload_ok _ _ rfl (fun _ => rfl) (by omega) (by omega), ?_⟩
    | refine ⟨aload_okD _ _ _ rfl (fun _ => rfl) (by omega) (by omega), ?_⟩
    | refine ⟨astore_ok (by assumption) rfl (by omega) (by omega) (by decide), ?_⟩
    | refine ⟨app_ok (by assumption) rfl rfl (by simp only [List.length_cons, List.length_nil]; omega), ?_⟩
    | refine need_holds ?_ fun _ => ?_
    | refine all_holds fun y hy => ?_
    | refine ret_le ?_
    | refine ih _ ?_ ?_
  · refine ⟨by omega, by omega, ?_⟩
    rw [← h2]
    exact decide_eq_decide.2 ⟨fun h => (eq_drop hl h0 ‹_›).2 ⟨‹_›, h⟩, fun h => ((eq_drop hl h0 ‹_›).1 h).2⟩
  · omega
  · refine rb_le ?_
    rw [← h2]
    exact (decide_eq_false fun h => absurd ((eq_drop hl h0 ‹_›).1 h).1 ‹_›).symm
  · refine rb_le ?_
    have hk : k.toNat = a.length := by omega
    rw [← h2, hk, List.drop_length, hl, List.drop_length]
    rfl
theorem c_eqI_good : c_eqI.fe.Good Try.prog := by
  refine FT.good c_eqI ⟨Try.f128, by kernel_rfl, by decide +kernel, by kernel_rfl⟩ (fun ⟨a, b⟩ => by first | rfl | simp [c_eqI, rrRef, rplaces, Sta.fresh]) fun ⟨a, b⟩ hp => ?_
  refine acalls_le s_eqI_sound (fn := Try.f128) (a := a_eqI) (nargs := 2) (tbl := [(4, [0, 1, 12, 13])]) (by kernel_rfl) (by kernel_rfl) rfl (m := 400) ?_
  show VC.holds _ _ _ (a_eqI.start s_eqI 400 [al a, al b])
  rw [t_eqI]
  try simp only [asRows_sl, asInt_int, asBool_bool, asStr_str, listOf_rowsOn, List.drop_zero, Prg.eta, Sta.eta, rowsOn_length, getD_drop, Nat.reduceAdd, rd_int, rd_PMem_name, rd_PMem_secret, rd_PMem_n, rd_PLabel_name, rd_PLabel_at_, rd_Ins_kind, rd_Ins_op, rd_Ins_d, rd_Ins_aR, rd_Ins_aN, rd_Ins_bR, rd_Ins_bN, rd_Ins_name, rd_Ins_target, rd_Ent_pc, rd_Ent_val, rd_Ent_addr, rd_Ent_fro, rd_Ent_next, rd_Ent_done, rd_Ent_known, rd_Ent_fault, rd_Place_reg, rd_Place_n, rd_Place_secret, rd_Obs_kind, rd_Obs_at_, rd_Dir_kind, rd_Dir_n]
  try simp only [c_eqI] at hp
  repeat' first
    | refine br_not ?_
    | refine br_dec (fun _ => ?_) (fun _ => ?_)
    | refine br_beq (fun _ => ?_) (fun _ => ?_)
    | refine br_bne (fun _ => ?_) (fun _ => ?_)
    | refine br_holds (fun _ => ?_) (fun _ => ?_)
    | refine ⟨PreOk.mk ?_ rfl, ?_⟩
    | refine ⟨idx_ok _ _ _ rfl (by omega) (by omega), ?_⟩
    | refine ⟨okSh_ok _ _ _ (fun _ => rfl) (by omega) (by omega), ?_⟩
    | refine ⟨okSh_okD _ _ _ _ (fun _ => rfl) (by omega) (by omega), ?_⟩
    | refine ⟨aload_ok _ _ rfl (fun _ => rfl) (by omega) (by omega), ?_⟩
    | refine ⟨aload_okD _ _ _ rfl (fun _ => rfl) (by omega) (by omega), ?_⟩
    | refine ⟨astore_ok (by assumption) rfl (by omega) (by omega) (by decide), ?_⟩
    | refine ⟨app_ok (by assumption) rfl rfl (by simp only [List.length_cons, List.length_nil]; omega), ?_⟩
    | refine need_holds ?_ fun _ => ?_
    | refine all_holds fun y hy => ?_
    | refine ret_le ?_
  · have e : c_eqI.ans (a, b) = rb (decide (a = b)) := rfl
    rw [e]
    exact l_eqI0 a b _ (by omega) hp 0 ⟨by omega, by omega, by simp⟩
  · exact rb_le (decide_eq_false fun h => by have h : a = b := h; subst h; omega).symm
def as_ (s : Sta) : A := .agg s.cells
def rdS : List A → Sta × Unit
  | [.agg l] => (Sta.of l, ())
  | _ => default
def rdSS : List A → Sta × Sta
  | [.agg l, .agg m] => (Sta.of l, Sta.of m)
  | _ => default
def rdPSS : List A → Prg × Sta × Sta
  | [.agg p, .agg l, .agg m] => (Prg.of p, Sta.of l, Sta.of m)
  | _ => default
/-- A state that can be held. -/
def SmallS (s : Sta) : Prop := s.mem.length ≤ 1000000 ∧ s.stack.length ≤ 1000000
def c_aStill : FT (Sta × Unit) := ⟨87, fun s => [as_ s.1], rdS, fun s => SmallS s.1, fun s => .agg s.1.fresh, false, fun s => by simp [as_, rdS]⟩
noncomputable def a_aStill : FnA := (fnA Try.prog Try.f87 1 []).getD ⟨0, .skip, [], []⟩
def s_aStill : Sp := spT [c_cloneI.fe]
theorem s_aStill_sound : s_aStill.sound Try.prog := spT_sound fun e he => by
  simp only [List.mem_cons, List.not_mem_nil, or_false] at he
  rcases he with rfl
  · exact c_cloneI_good
set_option maxRecDepth 100000 in
theorem t_aStill (s : Sta) : a_aStill.start s_aStill 400 [as_ s] =
(VC.need (PreOk c_cloneI (s.mem, ()) [A.c (D.sl (rowsOn s.mem))])
(VC.need (PreOk c_cloneI (s.stack, ()) [A.c (D.sl (rowsOn s.stack))])
(VC.ret (some (RR.agg [Rc.d (D.int IntKind.i64 s.r0), Rc.d (D.int IntKind.i64 s.r1), Rc.d (D.int IntKind.i64 s.r2), Rc.d (D.int IntKind.i64 s.r3), Rc.new (1 : Nat) (rowsOn (listOf Int (rowsOn s.mem))), Rc.new (1 : Nat) (rowsOn (listOf Int (rowsOn s.stack))), Rc.d (D.int IntKind.i64 s.pc)]))))) := by kernel_rfl
theorem agg_refl (a : List Rc) : (RR.agg a).le (.agg a) := Rc.les_refl a
theorem agg_le {a b : List Rc} (h : Rc.les a b) : (RR.agg a).le (.agg b) := h
theorem c_aStill_good : c_aStill.fe.Good Try.prog := by
  refine FT.good c_aStill ⟨Try.f87, by kernel_rfl, by decide +kernel, by kernel_rfl⟩ (fun ⟨s, u⟩ => by first | rfl | simp [c_aStill, rrRef, rplaces, Sta.fresh]) fun ⟨s, u⟩ hp => ?_
  refine acalls_le s_aStill_sound (fn := Try.f87) (a := a_aStill) (nargs := 1) (tbl := []) (by kernel_rfl) (by kernel_rfl) rfl (m := 400) ?_
  show VC.holds _ _ _ (a_aStill.start s_aStill 400 [as_ s])
  rw [t_aStill]
  try simp only [asRows_sl, asInt_int, asBool_bool, asStr_str, listOf_rowsOn, List.drop_zero, Prg.eta, Sta.eta, rowsOn_length, getD_drop, Nat.reduceAdd, rd_int, rd_PMem_name, rd_PMem_secret, rd_PMem_n, rd_PLabel_name, rd_PLabel_at_, rd_Ins_kind, rd_Ins_op, rd_Ins_d, rd_Ins_aR, rd_Ins_aN, rd_Ins_bR, rd_Ins_bN, rd_Ins_name, rd_Ins_target, rd_Ent_pc, rd_Ent_val, rd_Ent_addr, rd_Ent_fro, rd_Ent_next, rd_Ent_done, rd_Ent_known, rd_Ent_fault, rd_Place_reg, rd_Place_n, rd_Place_secret, rd_Obs_kind, rd_Obs_at_, rd_Dir_kind, rd_Dir_n]
  try simp only [c_aStill] at hp
  obtain ⟨h1, h2⟩ := hp
  repeat' first
    | refine br_not ?_
    | refine br_dec (fun _ => ?_) (fun _ => ?_)
    | refine br_beq (fun _ => ?_) (fun _ => ?_)
    | refine br_bne (fun _ => ?_) (fun _ => ?_)
    | refine br_holds (fun _ => ?_) (fun _ => ?_)
    | refine ⟨PreOk.mk ?_ rfl, ?_⟩
    | refine ⟨idx_ok _ _ _ rfl (by omega) (by omega), ?_⟩
    | refine ⟨okSh_ok _ _ _ (fun _ => rfl) (by omega) (by omega), ?_⟩
    | refine ⟨okSh_okD _ _ _ _ (fun _ => rfl) (by omega) (by omega), ?_⟩
    | refine ⟨aload_ok _ _ rfl (fun _ => rfl) (by omega) (by omega), ?_⟩
    | refine ⟨aload_okD _ _ _ rfl (fun _ => rfl) (by omega) (by omega), ?_⟩
    | refine ⟨astore_ok (by assumption) rfl (by omega) (by omega) (by decide), ?_⟩
    | refine ⟨app_ok (by assumption) rfl rfl (by simp only [List.length_cons, List.length_nil]; omega), ?_⟩
    | refine need_holds ?_ fun _ => ?_
    | refine all_holds fun y hy => ?_
    | refine ret_le ?_
  · show s.mem.length ≤ 1000000000
    omega
  · show s.stack.length ≤ 1000000000
    omega
  · exact agg_refl _
def c_aSame : FT (Sta × Sta) := ⟨88, fun x => [as_ x.1, as_ x.2], rdSS, fun x => SmallS x.1, fun x => rb (decide (x.1 = x.2)), false, fun s => by simp [as_, rdSS]⟩
noncomputable def a_aSame : FnA := (fnA Try.prog Try.f88 2 []).getD ⟨0, .skip, [], []⟩
def s_aSame : Sp := spT [c_eqI.fe]
theorem s_aSame_sound : s_aSame.sound Try.prog := spT_sound fun e he => by
  simp only [List.mem_cons, List.not_mem_nil, or_false] at he
  rcases he with rfl
  · exact c_eqI_good
set_option maxRecDepth 100000 in
theorem t_aSame (s t : Sta) : a_aSame.start s_aSame 400 [as_ s, as_ t] =
(VC.br (if false = true then !(s.r0 == t.r0 && (s.r1 == t.r1 && (s.r2 == t.r2 && (s.r3 == t.r3 && true)))) else s.r0 == t.r0 && (s.r1 == t.r1 && (s.r2 == t.r2 && (s.r3 == t.r3 && true))))
 (VC.need (PreOk c_eqI (s.mem, t.mem) [A.c (D.sl (rowsOn s.mem)), A.c (D.sl (rowsOn t.mem))])
 (VC.br (decide (listOf Int (rowsOn s.mem) = listOf Int (rowsOn t.mem)))
  (VC.need (PreOk c_eqI (s.stack, t.stack) [A.c (D.sl (rowsOn s.stack)), A.c (D.sl (rowsOn t.stack))])
  (VC.br (decide (listOf Int (rowsOn s.stack) = listOf Int (rowsOn t.stack)))
   (VC.ret (some (RR.c (Rc.d (D.bool (s.pc == t.pc))))))
   (VC.ret (some (RR.c (Rc.d (D.bool false)))))))
  (VC.ret (some (RR.c (Rc.d (D.bool false)))))))
 (VC.ret (some (RR.c (Rc.d (D.bool false)))))) := by kernel_rfl
theorem Sta.eq_iff {a b : Sta} : a = b ↔ a.r0 = b.r0 ∧ a.r1 = b.r1 ∧ a.r2 = b.r2 ∧ a.r3 = b.r3 ∧ a.mem = b.mem ∧ a.stack = b.stack ∧ a.pc = b.pc := by
  obtain ⟨_, _, _, _, _, _, _⟩ := a
  obtain ⟨_, _, _, _, _, _, _⟩ := b
  simp
theorem c_aSame_good : c_aSame.fe.Good Try.prog := by
  refine FT.good c_aSame ⟨Try.f88, by kernel_rfl, by decide +kernel, by kernel_rfl⟩ (fun ⟨s, t⟩ => by first | rfl | simp [c_aSame, rrRef, rplaces, Sta.fresh]) fun ⟨s, t⟩ hp => ?_
  refine acalls_le s_aSame_sound (fn := Try.f88) (a := a_aSame) (nargs := 2) (tbl := []) (by kernel_rfl) (by kernel_rfl) rfl (m := 400) ?_
  show VC.holds _ _ _ (a_aSame.start s_aSame 400 [as_ s, as_ t])
  rw [t_aSame]
  try simp only [asRows_sl, asInt_int, asBool_bool, asStr_str, listOf_rowsOn, List.drop_zero, Prg.eta, Sta.eta, rowsOn_length, getD_drop, Nat.reduceAdd, rd_int, rd_PMem_name, rd_PMem_secret, rd_PMem_n, rd_PLabel_name, rd_PLabel_at_, rd_Ins_kind, rd_Ins_op, rd_Ins_d, rd_Ins_aR, rd_Ins_aN, rd_Ins_bR, rd_Ins_bN, rd_Ins_name, rd_Ins_target, rd_Ent_pc, rd_Ent_val, rd_Ent_addr, rd_Ent_fro, rd_Ent_next, rd_Ent_done, rd_Ent_known, rd_Ent_fault, rd_Place_reg, rd_Place_n, rd_Place_secret, rd_Obs_kind, rd_Obs_at_, rd_Dir_kind, rd_Dir_n]
  try simp only [c_aSame] at hp
  obtain ⟨h1, h2⟩ := hp
  have e : c_aSame.ans (s, t) = rb (decide (s = t)) := rfl
  rw [e]
  simp only [Bool.false_eq_true, if_false, Bool.and_true]
  repeat' first
    | refine br_not ?_
    | refine br_dec (fun _ => ?_) (fun _ => ?_)
    | refine br_beq (fun _ => ?_) (fun _ => ?_)
    | refine br_bne (fun _ => ?_) (fun _ => ?_)
    | refine br_holds (fun _ => ?_) (fun _ => ?_)
    | refine ⟨PreOk.mk ?_ rfl, ?_⟩
    | refine ⟨idx_ok _ _ _ rfl (by omega) (by omega), ?_⟩
    | refine ⟨okSh_ok _ _ _ (fun _ => rfl) (by omega) (by omega), ?_⟩
    | refine ⟨okSh_okD _ _ _ _ (fun _ => rfl) (by omega) (by omega), ?_⟩
    | refine ⟨aload_ok _ _ rfl (fun _ => rfl) (by omega) (by omega), ?_⟩
    | refine ⟨aload_okD _ _ _ rfl (fun _ => rfl) (by omega) (by omega), ?_⟩
    | refine ⟨astore_ok (by assumption) rfl (by omega) (by omega) (by decide), ?_⟩
    | refine ⟨app_ok (by assumption) rfl rfl (by simp only [List.length_cons, List.length_nil]; omega), ?_⟩
    | refine need_holds ?_ fun _ => ?_
    | refine all_holds fun y hy => ?_
    | refine ret_le ?_
  all_goals try (dsimp only [c_eqI]; omega)
  all_goals refine rb_le ?_
  all_goals clear e
  all_goals rw [Bool.eq_iff_iff, decide_eq_true_iff, Sta.eq_iff]
  all_goals simp_all
/-- What is secret, as another state has it. -/
def seenS (t s : Sta) (x : Place) : Sta := if x.secret then putPlace s x (if x.reg then t.reg x.n else rd t.mem x.n) else s
def lowS (p : Prg) (s t : Sta) : Bool := if (s.mem.length : Int) = cellsS p.mems ∧ (t.mem.length : Int) = cellsS p.mems then decide ((placesS p).foldl (seenS t) s = t) else decide (s = t)
def c_aLow : FT (Prg × Sta × Sta) := ⟨40, fun x => [ap x.1, as_ x.2.1, as_ x.2.2], rdPSS, fun x => Mems x.1.mems ∧ SmallS x.2.1 ∧ SmallS x.2.2, fun x => rb (lowS x.1 x.2.1 x.2.2), false, fun s => by simp [as_, ap, rdPSS]⟩
noncomputable def a_aLow : FnA := (fnA Try.prog Try.f40 3 [(5, [4, 5, 29, 30, 31])]).getD ⟨0, .skip, [], []⟩
def s_aLow : Sp := spT [c_aStill.fe, c_aCells.fe, c_aPlaces.fe, c_aSame.fe]
theorem s_aLow_sound : s_aLow.sound Try.prog := spT_sound fun e he => by
  simp only [List.mem_cons, List.not_mem_nil, or_false] at he
  rcases he with rfl | rfl | rfl | rfl
  · exact c_aStill_good
  · exact c_aCells_good
  · exact c_aPlaces_good
  · exact c_aSame_good
def F_aLow (r0 r1 r2 r3 : Int) (M : List (List D)) (n : Nat) (stk : List Int) (pc : Int) (t : Sta) (q : List Place) (k : Int) : St := ⟨mkS 66 [(4, vp 256), (5, vp 320), (29, vo 1856 (rowsOn q).length), (30, vi (rowsOn q).length), (31, vi k)],
  [(256, bc [.d (.int .i64 r0), .d (.int .i64 r1), .d (.int .i64 r2), .d (.int .i64 r3), .own 644 1 n, .own 645 1 (rowsOn stk).length, .d (.int .i64 pc)]), (320, bx t.cells), (644, ba 1 M), (645, ba 1 (rowsOn stk)), (1856, ba 3 (rowsOn q))]⟩
set_option maxRecDepth 100000 in
theorem t_aLow (p : Prg) (s t : Sta) : a_aLow.start s_aLow 400 [ap p, as_ s, as_ t] =
(VC.need (PreOk c_aStill (Sta.of (Sta.cells s), ()) [A.agg (Sta.cells s)])
(VC.need (PreOk c_aCells p [A.agg (Prg.cells p)])
(VC.br ((↑(List.length (rowsOn (listOf Int (rowsOn s.mem)))) : Int) != cellsS (listOf PMem (rowsOn p.mems)))
 (VC.need (PreOk c_aSame (Sta.of (Sta.cells (Sta.of [D.int IntKind.i64 s.r0, D.int IntKind.i64 s.r1, D.int IntKind.i64 s.r2, D.int IntKind.i64 s.r3, D.sl (rowsOn s.mem), D.sl (rowsOn s.stack), D.int IntKind.i64 s.pc], ()).fst), Sta.of (Sta.cells t)) [A.agg (Sta.cells (Sta.of [D.int IntKind.i64 s.r0, D.int IntKind.i64 s.r1, D.int IntKind.i64 s.r2, D.int IntKind.i64 s.r3, D.sl (rowsOn s.mem), D.sl (rowsOn s.stack), D.int IntKind.i64 s.pc], ()).fst), A.agg (Sta.cells t)])
 (VC.ret (some (RR.c (Rc.d (D.bool (decide (Sta.of (Sta.cells (Sta.of [D.int IntKind.i64 s.r0, D.int IntKind.i64 s.r1, D.int IntKind.i64 s.r2, D.int IntKind.i64 s.r3, D.sl (rowsOn s.mem), D.sl (rowsOn s.stack), D.int IntKind.i64 s.pc], ()).fst) = Sta.of (Sta.cells t)))))))))
 (VC.need (PreOk c_aCells p [A.agg (Prg.cells p)])
 (VC.br ((↑(List.length (rowsOn t.mem)) : Int) != cellsS (listOf PMem (rowsOn p.mems)))
  (VC.need (PreOk c_aSame (Sta.of (Sta.cells (Sta.of [D.int IntKind.i64 s.r0, D.int IntKind.i64 s.r1, D.int IntKind.i64 s.r2, D.int IntKind.i64 s.r3, D.sl (rowsOn s.mem), D.sl (rowsOn s.stack), D.int IntKind.i64 s.pc], ()).fst), Sta.of (Sta.cells t)) [A.agg (Sta.cells (Sta.of [D.int IntKind.i64 s.r0, D.int IntKind.i64 s.r1, D.int IntKind.i64 s.r2, D.int IntKind.i64 s.r3, D.sl (rowsOn s.mem), D.sl (rowsOn s.stack), D.int IntKind.i64 s.pc], ()).fst), A.agg (Sta.cells t)])
  (VC.ret (some (RR.c (Rc.d (D.bool (decide (Sta.of (Sta.cells (Sta.of [D.int IntKind.i64 s.r0, D.int IntKind.i64 s.r1, D.int IntKind.i64 s.r2, D.int IntKind.i64 s.r3, D.sl (rowsOn s.mem), D.sl (rowsOn s.stack), D.int IntKind.i64 s.pc], ()).fst) = Sta.of (Sta.cells t)))))))))
  (VC.need (PreOk c_aPlaces p [A.agg (Prg.cells p)])
  (FnA.at_ a_aLow 0 (F_aLow s.r0 s.r1 s.r2 s.r3 (rowsOn (listOf Int (rowsOn s.mem))) (List.length (rowsOn (listOf Int (rowsOn s.mem)))) (listOf Int (rowsOn s.stack)) s.pc t (placesS { w := p.w, window := p.window, fuel := p.fuel, r0 := p.r0, r1 := p.r1, r2 := p.r2, r3 := p.r3, mems := listOf PMem (rowsOn p.mems), labels := listOf PLabel (rowsOn p.labels), ins := listOf Ins (rowsOn p.ins) }) (0 : Int))))))))) := by kernel_rfl
set_option maxRecDepth 100000 in
theorem t_aLow0 (r0 r1 r2 r3 : Int) (M : List (List D)) (n : Nat) (stk : List Int) (pc : Int) (t : Sta) (q : List Place) (k : Int) : a_aLow.round s_aLow 400 0 (F_aLow r0 r1 r2 r3 M n stk pc t q k) =
(VC.br (decide (k < (↑(List.length (rowsOn q)) : Int)))
 (VC.need ((0 : Int) ≤ k ∧ k < (↑(List.length (rowsOn q)) : Int))
 (VC.need (Int.toNat k < List.length (rowsOn q) ∧ List.length (rowAt (rowsOn q) (Int.toNat k)) = (3 : Nat) ∧ okSh [Kd.bool, Kd.int IntKind.i64, Kd.bool] (List.drop (0 : Nat) (rowAt (rowsOn q) (Int.toNat k))))
 (VC.br (!asBool (List.getD (List.drop (0 : Nat) (rowAt (rowsOn q) (Int.toNat k))) (2 : Nat) D.nilp))
  (FnA.at_ a_aLow 0 (F_aLow r0 r1 r2 r3 M n stk pc t q (IntKind.wrap IntKind.i64 (k + (1 : Int)))))
  (VC.br (asBool (List.getD (List.drop (0 : Nat) (rowAt (rowsOn q) (Int.toNat k))) (0 : Nat) D.nilp))
   (VC.br (decide (asInt (List.getD (List.drop (0 : Nat) (rowAt (rowsOn q) (Int.toNat k))) (1 : Nat) D.nilp) = (0 : Int)))
    (VC.br (decide (asInt (List.getD (List.drop (0 : Nat) (rowAt (rowsOn q) (Int.toNat k))) (1 : Nat) D.nilp) = (0 : Int)))
     (FnA.at_ a_aLow 0 (F_aLow t.r0 r1 r2 r3 M n stk pc t q (IntKind.wrap IntKind.i64 (k + (1 : Int)))))
     (VC.br (decide (asInt (List.getD (List.drop (0 : Nat) (rowAt (rowsOn q) (Int.toNat k))) (1 : Nat) D.nilp) = (1 : Int)))
      (FnA.at_ a_aLow 0 (F_aLow r0 t.r0 r2 r3 M n stk pc t q (IntKind.wrap IntKind.i64 (k + (1 : Int)))))
      (VC.br (decide (asInt (List.getD (List.drop (0 : Nat) (rowAt (rowsOn q) (Int.toNat k))) (1 : Nat) D.nilp) = (2 : Int)))
       (FnA.at_ a_aLow 0 (F_aLow r0 r1 t.r0 r3 M n stk pc t q (IntKind.wrap IntKind.i64 (k + (1 : Int)))))
       (VC.br (decide (asInt (List.getD (List.drop (0 : Nat) (rowAt (rowsOn q) (Int.toNat k))) (1 : Nat) D.nilp) = (3 : Int)))
        (FnA.at_ a_aLow 0 (F_aLow r0 r1 r2 t.r0 M n stk pc t q (IntKind.wrap IntKind.i64 (k + (1 : Int)))))
        VC.ff))))
    (VC.br (decide (asInt (List.getD (List.drop (0 : Nat) (rowAt (rowsOn q) (Int.toNat k))) (1 : Nat) D.nilp) = (1 : Int)))
     (VC.br (decide (asInt (List.getD (List.drop (0 : Nat) (rowAt (rowsOn q) (Int.toNat k))) (1 : Nat) D.nilp) = (0 : Int)))
      (FnA.at_ a_aLow 0 (F_aLow t.r1 r1 r2 r3 M n stk pc t q (IntKind.wrap IntKind.i64 (k + (1 : Int)))))
      (VC.br (decide (asInt (List.getD (List.drop (0 : Nat) (rowAt (rowsOn q) (Int.toNat k))) (1 : Nat) D.nilp) = (1 : Int)))
       (FnA.at_ a_aLow 0 (F_aLow r0 t.r1 r2 r3 M n stk pc t q (IntKind.wrap IntKind.i64 (k + (1 : Int)))))
       (VC.br (decide (asInt (List.getD (List.drop (0 : Nat) (rowAt (rowsOn q) (Int.toNat k))) (1 : Nat) D.nilp) = (2 : Int)))
        (FnA.at_ a_aLow 0 (F_aLow r0 r1 t.r1 r3 M n stk pc t q (IntKind.wrap IntKind.i64 (k + (1 : Int)))))
        (VC.br (decide (asInt (List.getD (List.drop (0 : Nat) (rowAt (rowsOn q) (Int.toNat k))) (1 : Nat) D.nilp) = (3 : Int)))
         (FnA.at_ a_aLow 0 (F_aLow r0 r1 r2 t.r1 M n stk pc t q (IntKind.wrap IntKind.i64 (k + (1 : Int)))))
         VC.ff))))
     (VC.br (decide (asInt (List.getD (List.drop (0 : Nat) (rowAt (rowsOn q) (Int.toNat k))) (1 : Nat) D.nilp) = (2 : Int)))
      (VC.br (decide (asInt (List.getD (List.drop (0 : Nat) (rowAt (rowsOn q) (Int.toNat k))) (1 : Nat) D.nilp) = (0 : Int)))
       (FnA.at_ a_aLow 0 (F_aLow t.r2 r1 r2 r3 M n stk pc t q (IntKind.wrap IntKind.i64 (k + (1 : Int)))))
       (VC.br (decide (asInt (List.getD (List.drop (0 : Nat) (rowAt (rowsOn q) (Int.toNat k))) (1 : Nat) D.nilp) = (1 : Int)))
        (FnA.at_ a_aLow 0 (F_aLow r0 t.r2 r2 r3 M n stk pc t q (IntKind.wrap IntKind.i64 (k + (1 : Int)))))
        (VC.br (decide (asInt (List.getD (List.drop (0 : Nat) (rowAt (rowsOn q) (Int.toNat k))) (1 : Nat) D.nilp) = (2 : Int)))
         (FnA.at_ a_aLow 0 (F_aLow r0 r1 t.r2 r3 M n stk pc t q (IntKind.wrap IntKind.i64 (k + (1 : Int)))))
         (VC.br (decide (asInt (List.getD (List.drop (0 : Nat) (rowAt (rowsOn q) (Int.toNat k))) (1 : Nat) D.nilp) = (3 : Int)))
          (FnA.at_ a_aLow 0 (F_aLow r0 r1 r2 t.r2 M n stk pc t q (IntKind.wrap IntKind.i64 (k + (1 : Int)))))
          VC.ff))))
      (VC.br (decide (asInt (List.getD (List.drop (0 : Nat) (rowAt (rowsOn q) (Int.toNat k))) (1 : Nat) D.nilp) = (3 : Int)))
       (VC.br (decide (asInt (List.getD (List.drop (0 : Nat) (rowAt (rowsOn q) (Int.toNat k))) (1 : Nat) D.nilp) = (0 : Int)))
        (FnA.at_ a_aLow 0 (F_aLow t.r3 r1 r2 r3 M n stk pc t q (IntKind.wrap IntKind.i64 (k + (1 : Int)))))
        (VC.br (decide (asInt (List.getD (List.drop (0 : Nat) (rowAt (rowsOn q) (Int.toNat k))) (1 : Nat) D.nilp) = (1 : Int)))
         (FnA.at_ a_aLow 0 (F_aLow r0 t.r3 r2 r3 M n stk pc t q (IntKind.wrap IntKind.i64 (k + (1 : Int)))))
         (VC.br (decide (asInt (List.getD (List.drop (0 : Nat) (rowAt (rowsOn q) (Int.toNat k))) (1 : Nat) D.nilp) = (2 : Int)))
          (FnA.at_ a_aLow 0 (F_aLow r0 r1 t.r3 r3 M n stk pc t q (IntKind.wrap IntKind.i64 (k + (1 : Int)))))
          (VC.br (decide (asInt (List.getD (List.drop (0 : Nat) (rowAt (rowsOn q) (Int.toNat k))) (1 : Nat) D.nilp) = (3 : Int)))
           (FnA.at_ a_aLow 0 (F_aLow r0 r1 r2 t.r3 M n stk pc t q (IntKind.wrap IntKind.i64 (k + (1 : Int)))))
           VC.ff))))
       VC.ff))))
   (VC.need ((0 : Int) ≤ asInt (List.getD (List.drop (0 : Nat) (rowAt (rowsOn q) (Int.toNat k))) (1 : Nat) D.nilp) ∧ asInt (List.getD (List.drop (0 : Nat) (rowAt (rowsOn q) (Int.toNat k))) (1 : Nat) D.nilp) < (↑(List.length (rowsOn t.mem)) : Int) ∧ List.length (rowAt (rowsOn t.mem) (Int.toNat (asInt (List.getD (List.drop (0 : Nat) (rowAt (rowsOn q) (Int.toNat k))) (1 : Nat) D.nilp)))) = (1 : Nat))
   (VC.need (okSh [Kd.int IntKind.i64] (rowAt (rowsOn t.mem) (Int.toNat (asInt (List.getD (List.drop (0 : Nat) (rowAt (rowsOn q) (Int.toNat k))) (1 : Nat) D.nilp)))))
   (VC.need ((0 : Int) ≤ asInt (List.getD (List.drop (0 : Nat) (rowAt (rowsOn q) (Int.toNat k))) (1 : Nat) D.nilp) ∧ asInt (List.getD (List.drop (0 : Nat) (rowAt (rowsOn q) (Int.toNat k))) (1 : Nat) D.nilp) < (↑n : Int))
   (VC.need (Int.toNat (asInt (List.getD (List.drop (0 : Nat) (rowAt (rowsOn q) (Int.toNat k))) (1 : Nat) D.nilp)) < List.length M ∧ List.length (rowAt M (Int.toNat (asInt (List.getD (List.drop (0 : Nat) (rowAt (rowsOn q) (Int.toNat k))) (1 : Nat) D.nilp)))) = (1 : Nat) ∧ (1 : Nat) ≤ (1 : Nat))
   (FnA.at_ a_aLow 0 (F_aLow r0 r1 r2 r3 (List.set M (Int.toNat (asInt (List.getD (List.drop (0 : Nat) (rowAt (rowsOn q) (Int.toNat k))) (1 : Nat) D.nilp))) (splice (rowAt M (Int.toNat (asInt (List.getD (List.drop (0 : Nat) (rowAt (rowsOn q) (Int.toNat k))) (1 : Nat) D.nilp)))) (0 : Nat) [D.int IntKind.i64 (asInt (List.getD (rowAt (rowsOn t.mem) (Int.toNat (asInt (List.getD (List.drop (0 : Nat) (rowAt (rowsOn q) (Int.toNat k))) (1 : Nat) D.nilp)))) (0 : Nat) D.nilp))])) n stk pc t q (IntKind.wrap IntKind.i64 (k + (1 : Int)))))))))))))
 (VC.need (PreOk c_aSame (Sta.of [D.int IntKind.i64 r0, D.int IntKind.i64 r1, D.int IntKind.i64 r2, D.int IntKind.i64 r3, D.sl M, D.sl (rowsOn stk), D.int IntKind.i64 pc], Sta.of (Sta.cells t)) [A.agg [D.int IntKind.i64 r0, D.int IntKind.i64 r1, D.int IntKind.i64 r2, D.int IntKind.i64 r3, D.sl M, D.sl (rowsOn stk), D.int IntKind.i64 pc], A.agg (Sta.cells t)])
 (VC.ret (some (RR.c (Rc.d (D.bool (decide (Sta.of [D.int IntKind.i64 r0, D.int IntKind.i64 r1, D.int IntKind.i64 r2, D.int IntKind.i64 r3, D.sl M, D.sl (rowsOn stk), D.int IntKind.i64 pc] = Sta.of (Sta.cells t)))))))))) := by kernel_rfl
theorem l_aLow0 (stk : List Int) (pc : Int) (t : Sta) (q : List Place) (c : Int) (fin : Sta) (hq : PlacesOk q c) (hl : q.length ≤ 10000) (hc : c ≤ 1000000) (ht : t.mem.length = c) (hs : stk.length ≤ 1000000) : ∀ i : Int × Int × Int × Int × Int × List (List D) × Nat, (fun (i : Int × Int × Int × Int × Int × List (List D) × Nat) => 0 ≤ i.1 ∧ i.1 ≤ q.length ∧ ∃ mem : List Int, OnL i.2.2.2.2.2.1 i.2.2.2.2.2.2 mem ∧ mem.length = c ∧ (q.drop i.1.toNat).foldl (seenS t) ⟨i.2.1, i.2.2.1, i.2.2.2.1, i.2.2.2.2.1, mem, stk, pc⟩ = fin) i → (a_aLow.at_ 0 ((fun (i : Int × Int × Int × Int × Int × List (List D) × Nat) => F_aLow i.2.1 i.2.2.1 i.2.2.2.1 i.2.2.2.2.1 i.2.2.2.2.2.1 i.2.2.2.2.2.2 stk pc t q i.1) i)).holds s_aLow.cx a_aLow.rs (fun r => r.le (rb (decide (fin = t)))) := by
  refine loop_rule (a := a_aLow) (j := 0) (m := 400) s_aLow_sound (fun (i : Int × Int × Int × Int × Int × List (List D) × Nat) => F_aLow i.2.1 i.2.2.1 i.2.2.2.1 i.2.2.2.2.1 i.2.2.2.2.2.1 i.2.2.2.2.2.2 stk pc t q i.1) (fun (i : Int × Int × Int × Int × Int × List (List D) × Nat) => 0 ≤ i.1 ∧ i.1 ≤ q.length ∧ ∃ mem : List Int, OnL i.2.2.2.2.2.1 i.2.2.2.2.2.2 mem ∧ mem.length = c ∧ (q.drop i.1.toNat).foldl (seenS t) ⟨i.2.1, i.2.2.1, i.2.2.2.1, i.2.2.2.2.1, mem, stk, pc⟩ = fin) (fun (i : Int × Int × Int × Int × Int × List (List D) × Nat) => ((q.length : Int) - i.1).toNat) ?_
  rintro ⟨k, r0, r1, r2, r3, M, n⟩ h_inv ih
  try dsimp only at h_inv
  replace ih := fun (v0 : Int) (v1 : Int) (v2 : Int) (v3 : Int) (v4 : Int) (v5 : List (List D)) (v6 : Nat) => ih (v0, v1, v2, v3, v4, v5, v6)
  try dsimp only at ih
  show VC.holds _ _ _ (a_aLow.round s_aLow 400 0 (F_aLow r0 r1 r2 r3 M n stk pc t q k))
  rw [t_aLow0]
  try simp only [asRows_sl, asInt_int, asBool_bool, asStr_str, listOf_rowsOn, List.drop_zero, Prg.eta, Sta.eta, rowsOn_length, getD_drop, Nat.reduceAdd, rd_int, rd_PMem_name, rd_PMem_secret, rd_PMem_n, rd_PLabel_name, rd_PLabel_at_, rd_Ins_kind, rd_Ins_op, rd_Ins_d, rd_Ins_aR, rd_Ins_aN, rd_Ins_bR, rd_Ins_bN, rd_Ins_name, rd_Ins_target, rd_Ent_pc, rd_Ent_val, rd_Ent_addr, rd_Ent_fro, rd_Ent_next, rd_Ent_done, rd_Ent_known, rd_Ent_fault, rd_Place_reg, rd_Place_n, rd_Place_secret, rd_Obs_kind, rd_Obs_at_, rd_Dir_kind, rd_Dir_n]
  obtain ⟨h0, h1, mem, h2, h3, h4⟩ := h_inv
  have w1 : IntKind.wrap .i64 (k + 1) = k + 1 := wrap_small _ (by omega) (by omega)
  rw [w1]
  repeat' first
    | refine br_not ?_
    | refine br_dec (fun _ => ?_) (fun _ => ?_)
    | refine br_beq (fun _ => ?_) (fun _ => ?_)
    | refine br_bne (fun _ => ?_) (fun _ => ?_)
    | refine br_holds (fun _ => ?_) (fun _ => ?_)
    | refine ⟨PreOk.mk ?_ rfl, ?_⟩
    | refine ⟨idx_ok _ _ _ rfl (by omega) (by omega), ?_⟩
    | refine ⟨okSh_ok _ _ _ (fun _ => rfl) (by omega) (by omega), ?_⟩
    | refine ⟨okSh_okD _ _ _ _ (fun _ => rfl) (by omega) (by omega), ?_⟩
    | refine ⟨aload_ok _ _ rfl (fun _ => rfl) (by omega) (by omega), ?_⟩
    | refine ⟨aload_okD _ _ _ rfl (fun _ => rfl) (by omega) (by omega), ?_⟩
    | refine ⟨astore_ok (by assumption) rfl (by omega) (by omega) (by decide), ?_⟩
    | refine ⟨app_ok (by assumption) rfl rfl (by simp only [List.length_cons, List.length_nil]; omega), ?_⟩
    | refine need_holds ?_ fun _ => ?_
    | refine all_holds fun y hy => ?_
    | refine ret_le ?_
    | refine ih _ _ _ _ _ _ _ ?_ ?_
  all_goals try omega
  all_goals try trivial
  all_goals try have hk : k < q.length := by assumption
  all_goals try have hx := hq _ (rd_mem q k h0 hk)
  all_goals try rw [drop_rd q k h0 hk, List.foldl_cons] at h4
  all_goals try (refine ⟨by omega, by omega, mem, h2, h3, ?_⟩; simpa [seenS, putPlace, Sta.setReg, Sta.reg, *] using h4)
  all_goals try (have := hx.1 ‹_›; omega)
  · have := hx.2 ‹_›
    exact idx_ok _ _ _ rfl (by omega) (by omega)
  · have := hx.2 ‹_›
    have := h2.2
    omega
  · have := hx.2 ‹_›
    refine ⟨by omega, by omega, mem.set (rd q k).n.toNat (rd t.mem (rd q k).n), h2.set (by omega) (by omega) (rd t.mem (rd q k).n), by simpa using h3, ?_⟩
    simpa [seenS, putPlace, Sta.setReg, Sta.reg, *] using h4
  · obtain ⟨rfl, rfl⟩ := h2
    refine PreOk.mk ?_ ?_
    · simp only [Sta.of, listOf_rowsOn]
      exact ⟨by dsimp only; omega, by dsimp only; omega⟩
    · simp [Sta.of, Sta.cells, c_aSame, as_]
  · obtain ⟨rfl, rfl⟩ := h2
    have hk : k.toNat = q.length := by omega
    rw [hk, List.drop_length] at h4
    simp only [List.foldl_nil] at h4
    subst h4
    simp only [Sta.of, listOf_rowsOn, Sta.cells]
    exact rb_le rfl
theorem c_aLow_good : c_aLow.fe.Good Try.prog := by
  refine FT.good c_aLow ⟨Try.f40, by kernel_rfl, by decide +kernel, by kernel_rfl⟩ (fun ⟨p, s, t⟩ => by first | rfl | simp [c_aLow, rrRef, rplaces, Sta.fresh]) fun ⟨p, s, t⟩ hp => ?_
  refine acalls_le s_aLow_sound (fn := Try.f40) (a := a_aLow) (nargs := 3) (tbl := [(5, [4, 5, 29, 30, 31])]) (by kernel_rfl) (by kernel_rfl) rfl (m := 400) ?_
  show VC.holds _ _ _ (a_aLow.start s_aLow 400 [ap p, as_ s, as_ t])
  rw [t_aLow]
  try simp only [asRows_sl, asInt_int, asBool_bool, asStr_str, listOf_rowsOn, List.drop_zero, Prg.eta, Sta.eta, rowsOn_length, getD_drop, Nat.reduceAdd, rd_int, rd_PMem_name, rd_PMem_secret, rd_PMem_n, rd_PLabel_name, rd_PLabel_at_, rd_Ins_kind, rd_Ins_op, rd_Ins_d, rd_Ins_aR, rd_Ins_aN, rd_Ins_bR, rd_Ins_bN, rd_Ins_name, rd_Ins_target, rd_Ent_pc, rd_Ent_val, rd_Ent_addr, rd_Ent_fro, rd_Ent_next, rd_Ent_done, rd_Ent_known, rd_Ent_fault, rd_Place_reg, rd_Place_n, rd_Place_secret, rd_Obs_kind, rd_Obs_at_, rd_Dir_kind, rd_Dir_n]
  try simp only [c_aLow] at hp
  obtain ⟨hm, hs, ht⟩ := hp
  have hpl := places_len p hm
  have e : c_aLow.ans (p, s, t) = rb (lowS p s t) := rfl
  rw [e]
  simp only [Sta.of_cells]
  simp only [Sta.of, listOf_rowsOn, Sta.cells]
  repeat' first
    | refine br_not ?_
    | refine br_dec (fun _ => ?_) (fun _ => ?_)
    | refine br_beq (fun _ => ?_) (fun _ => ?_)
    | refine br_bne (fun _ => ?_) (fun _ => ?_)
    | refine br_holds (fun _ => ?_) (fun _ => ?_)
    | refine ⟨PreOk.mk ?_ rfl, ?_⟩
    | refine ⟨idx_ok _ _ _ rfl (by omega) (by omega), ?_⟩
    | refine ⟨okSh_ok _ _ _ (fun _ => rfl) (by omega) (by omega), ?_⟩
    | refine ⟨okSh_okD _ _ _ _ (fun _ => rfl) (by omega) (by omega), ?_⟩
    | refine ⟨aload_ok _ _ rfl (fun _ => rfl) (by omega) (by omega), ?_⟩
    | refine ⟨aload_okD _ _ _ rfl (fun _ => rfl) (by omega) (by omega), ?_⟩
    | refine ⟨astore_ok (by assumption) rfl (by omega) (by omega) (by decide), ?_⟩
    | refine ⟨app_ok (by assumption) rfl rfl (by simp only [List.length_cons, List.length_nil]; omega), ?_⟩
    | refine need_holds ?_ fun _ => ?_
    | refine all_holds fun y hy => ?_
    | refine ret_le ?_
  all_goals try exact hm
  all_goals try exact hs
  · have e2 : lowS p s t = decide ((placesS p).foldl (seenS t) s = t) := if_pos ⟨by omega, by omega⟩
    rw [e2]
    exact l_aLow0 s.stack s.pc t (placesS p) (cellsS p.mems) ((placesS p).foldl (seenS t) s) (places_ok p hm) (by omega) (by omega) (by omega) hs.2 (0, s.r0, s.r1, s.r2, s.r3, _, _) ⟨by simp, by simp, s.mem, ⟨rfl, rfl⟩, by omega, rfl⟩
  · have e2 : lowS p s t = decide (s = t) := if_neg (by omega)
    rw [e2]
    exact rb_le rfl
  · have e2 : lowS p s t = decide (s = t) := if_neg (by omega)
    rw [e2]
    exact rb_le rfl
end Go.Proofs.Ytclabjihjopclaa.Ax
