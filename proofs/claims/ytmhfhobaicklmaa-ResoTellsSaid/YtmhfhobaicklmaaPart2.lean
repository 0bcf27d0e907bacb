/- Several texts in one, in their order. -/
import Derived.Test.YtmhfhobaicklmaaPart1
import Derived.Test.YtmhfhobaicklmaaAx24
import Derived.Test.YtmhfhobaicklmaaAxZ
section
/- One by one: seqm.Step. -/
namespace Go.Proofs.Ytmhfhobaicklmaa.Ax
open Go.RowKit
set_option linter.unusedVariables false
set_option linter.unusedSimpArgs false
def rstep (x : Sta × List Obs × Int) : RR := .tup [.inr (x.1.cells.map .d), .inl (.d (.sl (rowsOn x.2.1))), .inl (.d (.int .i64 x.2.2))]
/-- seqm.put and touch are run in their callers' places. -/
noncomputable def Z_t : Zo := mkZ Try.prog 200000 [(63, ⟨300000, fun _ => none, fun _ => none⟩)]
theorem ins_eta (i : Ins) : (Row.of [D.int .i64 i.kind, .int .i64 i.op, .int .i64 i.d, .bool i.aR, .int .i64 i.aN, .bool i.bR, .int .i64 i.bN, .str i.name, .int .i64 i.target] : Ins) = i := Row.of_row i
end Go.Proofs.Ytmhfhobaicklmaa.Ax
end

section
/- One by one: runs. -/
namespace Go.Proofs.Ytmhfhobaicklmaa.Ax
open Go.RowKit
set_option linter.unusedVariables false
set_option linter.unusedSimpArgs false
def rrun (x : Sta × List Obs × Int × Int) : RR := .tup [.inr (x.1.cells.map .d), .inl (.d (.sl (rowsOn x.2.1))), .inl (.d (.int .i64 x.2.2.1)), .inl (.d (.int .i64 x.2.2.2))]
end Go.Proofs.Ytmhfhobaicklmaa.Ax
end

section
/- One by one, by the document: auguryref7's step and run. -/
namespace Go.Proofs.Ytmhfhobaicklmaa.Ax
open Go.RowKit
set_option linter.unusedVariables false
set_option linter.unusedSimpArgs false
def c_rAt : FT (Prg × Int) := ⟨48, fun x => [ap x.1, ai x.2], rdPI, fun _ => True, fun x => rins (atS x.1.ins x.2), false, fun x => by simp [ap, ai, rdPI]⟩
noncomputable def a_rAt : FnA := (fnA Try.prog Try.f48 2 []).getD ⟨0, .skip, [], []⟩
def s_rAt : Sp := spT []
theorem s_rAt_sound : s_rAt.sound Try.prog := spT_sound fun e he => by cases he
set_option maxRecDepth 100000 in
theorem t_rAt (p : Prg) (i : Int) : a_rAt.start s_rAt 400 [ap p, ai i] =
(VC.br (decide (i < (0 : Int)))
 (VC.ret (some (RR.agg [Rc.d (D.int IntKind.i64 (12 : Int)), Rc.d (D.int IntKind.i64 (0 : Int)), Rc.d (D.int IntKind.i64 (0 : Int)), Rc.d (D.bool false), Rc.d (D.int IntKind.i64 (0 : Int)), Rc.d (D.bool false), Rc.d (D.int IntKind.i64 (0 : Int)), Rc.d (D.str { data := #[] }), Rc.d (D.int IntKind.i64 (0 : Int))])))
 (VC.br (decide ((↑(List.length (rowsOn p.ins)) : Int) ≤ i))
  (VC.ret (some (RR.agg [Rc.d (D.int IntKind.i64 (12 : Int)), Rc.d (D.int IntKind.i64 (0 : Int)), Rc.d (D.int IntKind.i64 (0 : Int)), Rc.d (D.bool false), Rc.d (D.int IntKind.i64 (0 : Int)), Rc.d (D.bool false), Rc.d (D.int IntKind.i64 (0 : Int)), Rc.d (D.str { data := #[] }), Rc.d (D.int IntKind.i64 (0 : Int))])))
  (VC.need ((0 : Int) ≤ i ∧ i < (↑(List.length (rowsOn p.ins)) : Int) ∧ List.length (rowAt (rowsOn p.ins) (Int.toNat i)) = (9 : Nat))
  (VC.need (okSh [Kd.int IntKind.i64, Kd.int IntKind.i64, Kd.int IntKind.i64, Kd.bool, Kd.int IntKind.i64, Kd.bool, Kd.int IntKind.i64, Kd.str, Kd.int IntKind.i64] (rowAt (rowsOn p.ins) (Int.toNat i)))
  (VC.ret (some (RR.agg [Rc.d (D.int IntKind.i64 (asInt (List.getD (rowAt (rowsOn p.ins) (Int.toNat i)) (0 : Nat) D.nilp))), Rc.d (D.int IntKind.i64 (asInt (List.getD (rowAt (rowsOn p.ins) (Int.toNat i)) (1 : Nat) D.nilp))), Rc.d (D.int IntKind.i64 (asInt (List.getD (rowAt (rowsOn p.ins) (Int.toNat i)) (2 : Nat) D.nilp))), Rc.d (D.bool (asBool (List.getD (rowAt (rowsOn p.ins) (Int.toNat i)) (3 : Nat) D.nilp))), Rc.d (D.int IntKind.i64 (asInt (List.getD (rowAt (rowsOn p.ins) (Int.toNat i)) (4 : Nat) D.nilp))), Rc.d (D.bool (asBool (List.getD (rowAt (rowsOn p.ins) (Int.toNat i)) (5 : Nat) D.nilp))), Rc.d (D.int IntKind.i64 (asInt (List.getD (rowAt (rowsOn p.ins) (Int.toNat i)) (6 : Nat) D.nilp))), Rc.d (D.str (asStr (List.getD (rowAt (rowsOn p.ins) (Int.toNat i)) (7 : Nat) D.nilp))), Rc.d (D.int IntKind.i64 (asInt (List.getD (rowAt (rowsOn p.ins) (Int.toNat i)) (8 : Nat) D.nilp)))]))))))) := by kernel_rfl
theorem c_rAt_good : c_rAt.fe.Good Try.prog := by
  refine FT.good c_rAt ⟨Try.f48, by kernel_rfl, by decide +kernel, by kernel_rfl⟩ (fun ⟨p, i⟩ => by first | rfl | simp [c_rAt, rrRef, rrun, rstep, rins, rnum, rby, rss, rnewI, rnewE, rstab, rplaces, ri, rb, rib, Sta.fresh]) fun ⟨p, i⟩ hp => ?_
  refine acalls_le s_rAt_sound (fn := Try.f48) (a := a_rAt) (nargs := 2) (tbl := []) (by kernel_rfl) (by kernel_rfl) rfl (m := 400) ?_
  show VC.holds _ _ _ (a_rAt.start s_rAt 400 [ap p, ai i])
  rw [t_rAt]
  try simp only [asRows_sl, asInt_int, asBool_bool, asStr_str, listOf_rowsOn, List.drop_zero, Prg.eta, Sta.eta, rowsOn_length, getD_drop, Nat.reduceAdd, rd_int, rd_PMem_name, rd_PMem_secret, rd_PMem_n, rd_PLabel_name, rd_PLabel_at_, rd_Ins_kind, rd_Ins_op, rd_Ins_d, rd_Ins_aR, rd_Ins_aN, rd_Ins_bR, rd_Ins_bN, rd_Ins_name, rd_Ins_target, rd_Ent_pc, rd_Ent_val, rd_Ent_addr, rd_Ent_fro, rd_Ent_next, rd_Ent_done, rd_Ent_known, rd_Ent_fault, rd_Place_reg, rd_Place_n, rd_Place_secret, rd_Obs_kind, rd_Obs_at_, rd_Dir_kind, rd_Dir_n, Prg.of_cells, Sta.of_cells]
  try simp only [c_rAt] at hp
  repeat' first
    | refine br_not ?_
    | refine br_dec (fun _ => ?_) (fun _ => ?_)
    | refine br_beq (fun _ => ?_) (fun _ => ?_)
    | refine br_bne (fun _ => ?_) (fun _ => ?_)
    | refine br_holds (fun _ => ?_) (fun _ => ?_)
    | refine ⟨PreOk.mk ?_ rfl, ?_⟩
    | refine ⟨idx_ok _ _ _ rfl (by omega) (by omega), ?_⟩
    | refine ⟨okSh_ok _ _ _ (fun _ => rfl) (by omega) (by omega), ?_⟩
    | refine ⟨okSh_okD _ _ _ _ (fun _ => rfl) (by omega) (by omega), ?_⟩
    | refine ⟨aload_ok _ _ rfl (fun _ => rfl) (by omega) (by omega), ?_⟩
    | refine ⟨aload_okD _ _ _ rfl (fun _ => rfl) (by omega) (by omega), ?_⟩
    | refine ⟨astore_ok (by assumption) rfl (by omega) (by omega) (by decide), ?_⟩
    | refine ⟨app_ok (by assumption) rfl rfl (by simp only [List.length_cons, List.length_nil]; omega), ?_⟩
    | refine need_holds ?_ fun _ => ?_
    | refine all_holds fun y hy => ?_
    | refine ret_le ?_
  all_goals refine RR.le_of_eq ?_
  · show _ = rins (atS p.ins i)
    unfold atS; rw [if_pos (.inl ‹_›)]; rfl
  · show _ = rins (atS p.ins i)
    unfold atS; rw [if_pos (.inr ‹_›)]; rfl
  · show _ = rins (atS p.ins i)
    unfold atS; rw [if_neg (by omega)]; rfl
noncomputable def v_rAt : Prg × Int → Ins := fun x => atS x.1.ins x.2
noncomputable def sh_rAt : Ins → RR := fun i => rins i
theorem e_rAt (x : Prg × Int) : sh_rAt (v_rAt x) = c_rAt.ans x := rfl
structure Regs where
  r0 : Int
  r1 : Int
  r2 : Int
  r3 : Int
  deriving Inhabited
def Regs.get (s : Regs) (r : Int) : Int := if r = 0 then s.r0 else if r = 1 then s.r1 else if r = 2 then s.r2 else s.r3
def aRegs (g : Regs) : A := .agg [.int .i64 g.r0, .int .i64 g.r1, .int .i64 g.r2, .int .i64 g.r3]
def c_rJump : FT (Prg × Int) := ⟨73, fun x => [ap x.1, ai x.2], rdPI, fun _ => True, fun x => ri (min x.2 x.1.ins.length), false, fun x => by simp [ap, ai, rdPI]⟩
noncomputable def a_rJump : FnA := (fnA Try.prog Try.f73 2 []).getD ⟨0, .skip, [], []⟩
def s_rJump : Sp := spT []
theorem s_rJump_sound : s_rJump.sound Try.prog := spT_sound fun e he => by cases he
set_option maxRecDepth 100000 in
theorem t_rJump (p : Prg) (i : Int) : a_rJump.start s_rJump 400 [ap p, ai i] =
(VC.ret (some (RR.c (Rc.d (D.int IntKind.i64 (min i (↑(List.length (rowsOn p.ins)) : Int))))))) := by kernel_rfl
theorem c_rJump_good : c_rJump.fe.Good Try.prog := by
  refine FT.good c_rJump ⟨Try.f73, by kernel_rfl, by decide +kernel, by kernel_rfl⟩ (fun ⟨p, i⟩ => by first | rfl | simp [c_rJump, rrRef, rrun, rstep, rins, rnum, rby, rss, rnewI, rnewE, rstab, rplaces, ri, rb, rib, Sta.fresh]) fun ⟨p, i⟩ hp => ?_
  refine acalls_le s_rJump_sound (fn := Try.f73) (a := a_rJump) (nargs := 2) (tbl := []) (by kernel_rfl) (by kernel_rfl) rfl (m := 400) ?_
  show VC.holds _ _ _ (a_rJump.start s_rJump 400 [ap p, ai i])
  rw [t_rJump]
  try simp only [asRows_sl, asInt_int, asBool_bool, asStr_str, listOf_rowsOn, List.drop_zero, Prg.eta, Sta.eta, rowsOn_length, getD_drop, Nat.reduceAdd, rd_int, rd_PMem_name, rd_PMem_secret, rd_PMem_n, rd_PLabel_name, rd_PLabel_at_, rd_Ins_kind, rd_Ins_op, rd_Ins_d, rd_Ins_aR, rd_Ins_aN, rd_Ins_bR, rd_Ins_bN, rd_Ins_name, rd_Ins_target, rd_Ent_pc, rd_Ent_val, rd_Ent_addr, rd_Ent_fro, rd_Ent_next, rd_Ent_done, rd_Ent_known, rd_Ent_fault, rd_Place_reg, rd_Place_n, rd_Place_secret, rd_Obs_kind, rd_Obs_at_, rd_Dir_kind, rd_Dir_n, Prg.of_cells, Sta.of_cells]
  try simp only [c_rJump] at hp
  repeat' first
    | refine br_not ?_
    | refine br_dec (fun _ => ?_) (fun _ => ?_)
    | refine br_beq (fun _ => ?_) (fun _ => ?_)
    | refine br_bne (fun _ => ?_) (fun _ => ?_)
    | refine br_holds (fun _ => ?_) (fun _ => ?_)
    | refine ⟨PreOk.mk ?_ rfl, ?_⟩
    | refine ⟨idx_ok _ _ _ rfl (by omega) (by omega), ?_⟩
    | refine ⟨okSh_ok _ _ _ (fun _ => rfl) (by omega) (by omega), ?_⟩
    | refine ⟨okSh_okD _ _ _ _ (fun _ => rfl) (by omega) (by omega), ?_⟩
    | refine ⟨aload_ok _ _ rfl (fun _ => rfl) (by omega) (by omega), ?_⟩
    | refine ⟨aload_okD _ _ _ rfl (fun _ => rfl) (by omega) (by omega), ?_⟩
    | refine ⟨astore_ok (by assumption) rfl (by omega) (by omega) (by decide), ?_⟩
    | refine ⟨app_ok (by assumption) rfl rfl (by simp only [List.length_cons, List.length_nil]; omega), ?_⟩
    | refine need_holds ?_ fun _ => ?_
    | refine all_holds fun y hy => ?_
    | refine ret_le ?_
  exact RR.le_of_eq (by simp [c_rJump, ri, Int.min_comm])
noncomputable def v_rJump : Prg × Int → Int := fun x => min x.2 x.1.ins.length
noncomputable def sh_rJump : Int → RR := fun i => ri i
theorem e_rJump (x : Prg × Int) : sh_rJump (v_rJump x) = c_rJump.ans x := rfl
noncomputable def v_rMask : Int × Int → Int := fun x => maskS x.1 x.2
noncomputable def sh_rMask : Int → RR := fun i => ri i
theorem e_rMask (x : Int × Int) : sh_rMask (v_rMask x) = c_rMask.ans x := rfl
noncomputable def v_rDo : Int × Int × Int × Int → Int × Bool := fun x => doS x.1 x.2.1 x.2.2.1 x.2.2.2
noncomputable def sh_rDo : Int × Bool → RR := fun i => rib i
theorem e_rDo (x : Int × Int × Int × Int) : sh_rDo (v_rDo x) = c_rDo.ans x := rfl
structure InsOk (i : Ins) : Prop where
  d : 0 ≤ i.d ∧ i.d < 4
  aN : 0 ≤ i.aN ∧ i.aN < 4
  bN : 0 ≤ i.bN ∧ i.bN < 4
structure PrgOk (p : Prg) : Prop where
  w : okW p.w
  mems : Mems p.mems
  len : p.ins.length ≤ 1000000
  ins : ∀ i ∈ p.ins, InsOk i
structure StaOk (p : Prg) (s : Sta) : Prop where
  regs : ∀ r, 0 ≤ r ∧ r < 4 → 0 ≤ s.reg r ∧ s.reg r < 2 ^ p.w.toNat
  vals : ∀ x ∈ s.mem, 0 ≤ x ∧ x < 2 ^ p.w.toNat
  mem : (s.mem.length : Int) = cellsS p.mems
  stack : s.stack.length ≤ 1000000
theorem StaOk.small {p : Prg} {s : Sta} (hp : PrgOk p) (h : StaOk p s) : SmallS s := by
  have := (places_len p hp.mems).2
  have := h.mem
  exact ⟨by omega, h.stack⟩
def Sta.regs (s : Sta) : Regs := ⟨s.r0, s.r1, s.r2, s.r3⟩
end Go.Proofs.Ytmhfhobaicklmaa.Ax
end

section
/- One by one, by the document: runs; observations compared. -/
namespace Go.Proofs.Ytmhfhobaicklmaa.Ax
open Go.RowKit
set_option linter.unusedVariables false
set_option linter.unusedSimpArgs false
end Go.Proofs.Ytmhfhobaicklmaa.Ax
end

section
/- Places and states that look alike, plainly. -/
namespace Go.Proofs.Ytmhfhobaicklmaa.Ax
open Go.RowKit
set_option linter.unusedVariables false
set_option linter.unusedSimpArgs false
/-- Whether a cell is secret. -/
def secM : List PMem → Int → Bool
  | [], _ => false
  | m :: ms, j => if j < m.n then m.secret else secM ms (j - m.n)
theorem mem_memPlace {n at_ : Int} {s : Bool} {x : Place} (h : 0 ≤ n) : x ∈ memPlace n at_ s ↔ x.reg = false ∧ at_ ≤ x.n ∧ x.n < at_ + n ∧ x.secret = s := by
  unfold memPlace
  simp only [List.mem_map, List.mem_range]
  constructor
  · rintro ⟨k, hk, rfl⟩
    exact ⟨rfl, by dsimp only; omega, by dsimp only; omega, rfl⟩
  · rintro ⟨h1, h2, h3, h4⟩
    refine ⟨(x.n - at_).toNat, by omega, ?_⟩
    obtain ⟨r, n', s'⟩ := x
    simp only at h1 h2 h3 h4
    simp only [Place.mk.injEq]
    exact ⟨h1.symm, by omega, h4.symm⟩
theorem mem_memPlaces : ∀ (ms : List PMem) (at_ : Int), (∀ m ∈ ms, 0 ≤ m.n ∧ m.n ≤ 16) → ∀ x : Place, x ∈ memPlaces ms at_ ↔ x.reg = false ∧ at_ ≤ x.n ∧ x.n < at_ + cellsS ms ∧ x.secret = secM ms (x.n - at_)
  | [], at_, _, x => by
    simp only [memPlaces, cellsS, List.not_mem_nil, false_iff]
    intro h; omega
  | m :: ms, at_, h, x => by
    have h0 := h m (by simp)
    have hc := cellsS_nonneg (ms := ms) fun y hy => h y (by simp [hy])
    rw [memPlaces, List.mem_append, mem_memPlace h0.1, mem_memPlaces ms (at_ + m.n) (fun y hy => h y (by simp [hy])) x]
    simp only [cellsS, secM]
    have e : x.n - (at_ + m.n) = x.n - at_ - m.n := by omega
    rw [e]
    by_cases hx : x.n - at_ < m.n
    · rw [if_pos hx]
      constructor
      · rintro (⟨h1, h2, h3, h4⟩ | ⟨h1, h2, h3, h4⟩)
        · exact ⟨h1, h2, by omega, h4⟩
        · omega
      · rintro ⟨h1, h2, h3, h4⟩
        exact .inl ⟨h1, h2, by omega, h4⟩
    · rw [if_neg hx]
      constructor
      · rintro (⟨h1, h2, h3, h4⟩ | ⟨h1, h2, h3, h4⟩)
        · omega
        · exact ⟨h1, by omega, by omega, h4⟩
      · rintro ⟨h1, h2, h3, h4⟩
        exact .inr ⟨h1, by omega, by omega, h4⟩
theorem mem_regPlace {n r : Int} {x : Place} : x ∈ regPlace n r ↔ n ≠ 0 ∧ x.reg = true ∧ x.n = r ∧ x.secret = decide (n = 2) := by
  obtain ⟨a, b, c⟩ := x
  unfold regPlace
  by_cases h : n = 0
  · simp [h]
  · simp [h]
theorem Prg.reg_cases (p : Prg) {r : Int} (h : 0 ≤ r ∧ r < 4) : (r = 0 ∧ p.reg r = p.r0) ∨ (r = 1 ∧ p.reg r = p.r1) ∨ (r = 2 ∧ p.reg r = p.r2) ∨ (r = 3 ∧ p.reg r = p.r3) := by
  have : r = 0 ∨ r = 1 ∨ r = 2 ∨ r = 3 := by omega
  rcases this with rfl | rfl | rfl | rfl <;> simp [Prg.reg]
theorem mem_regPlaces (p : Prg) (x : Place) : x ∈ regPlaces p ↔ x.reg = true ∧ 0 ≤ x.n ∧ x.n < 4 ∧ p.reg x.n ≠ 0 ∧ x.secret = decide (p.reg x.n = 2) := by
  unfold regPlaces
  simp only [List.mem_append, mem_regPlace]
  constructor
  · rintro (((⟨h1, h2, h3, h4⟩ | ⟨h1, h2, h3, h4⟩) | ⟨h1, h2, h3, h4⟩) | ⟨h1, h2, h3, h4⟩)
    all_goals (rw [h3]; refine ⟨h2, by omega, by omega, ?_⟩; simpa [Prg.reg] using ⟨h1, h4⟩)
  · rintro ⟨h1, h2, h3, h4, h5⟩
    rcases p.reg_cases ⟨h2, h3⟩ with ⟨e, h⟩ | ⟨e, h⟩ | ⟨e, h⟩ | ⟨e, h⟩ <;> rw [h] at h4 h5
    · exact .inl (.inl (.inl ⟨h4, h1, e, h5⟩))
    · exact .inl (.inl (.inr ⟨h4, h1, e, h5⟩))
    · exact .inl (.inr ⟨h4, h1, e, h5⟩)
    · exact .inr ⟨h4, h1, e, h5⟩
theorem mem_places (p : Prg) (hm : Mems p.mems) (x : Place) : x ∈ placesS p ↔ (x.reg = true ∧ 0 ≤ x.n ∧ x.n < 4 ∧ p.reg x.n ≠ 0 ∧ x.secret = decide (p.reg x.n = 2)) ∨ (x.reg = false ∧ 0 ≤ x.n ∧ x.n < cellsS p.mems ∧ x.secret = secM p.mems x.n) := by
  unfold placesS
  rw [List.mem_append, mem_regPlaces, mem_memPlaces p.mems 0 hm.n]
  simp
/-- No place comes twice. -/
def PApart (x y : Place) : Prop := ¬ (x.reg = y.reg ∧ x.n = y.n)
theorem memPlace_apart (n at_ : Int) (s : Bool) : (memPlace n at_ s).Pairwise PApart := by
  unfold memPlace
  rw [List.pairwise_map]
  refine List.Pairwise.imp ?_ List.pairwise_lt_range
  rintro a b h ⟨_, h2⟩
  simp only at h2
  omega
theorem memPlaces_apart : ∀ (ms : List PMem) (at_ : Int), (∀ m ∈ ms, 0 ≤ m.n ∧ m.n ≤ 16) → (memPlaces ms at_).Pairwise PApart
  | [], _, _ => List.Pairwise.nil
  | m :: ms, at_, h => by
    rw [memPlaces, List.pairwise_append]
    refine ⟨memPlace_apart .., memPlaces_apart ms _ fun y hy => h y (by simp [hy]), ?_⟩
    intro x hx y hy ⟨_, h2⟩
    rw [mem_memPlace (h m (by simp)).1] at hx
    rw [mem_memPlaces ms _ fun y hy => h y (by simp [hy])] at hy
    omega
theorem regPlaces_apart (p : Prg) : (regPlaces p).Pairwise PApart := by
  have h1 : ∀ n r, (regPlace n r).Pairwise PApart := by
    intro n r; unfold regPlace; split <;> simp
  have h2 : ∀ n r m q, r ≠ q → ∀ x ∈ regPlace n r, ∀ y ∈ regPlace m q, PApart x y := by
    intro n r m q hne x hx y hy ⟨_, h⟩
    rw [mem_regPlace] at hx hy
    exact hne (by rw [← hx.2.2.1, ← hy.2.2.1, h])
  unfold regPlaces
  simp only [List.pairwise_append, List.mem_append]
  refine ⟨⟨⟨h1 _ _, h1 _ _, h2 _ _ _ _ (by decide)⟩, h1 _ _, ?_⟩, h1 _ _, ?_⟩
  · rintro x (hx | hx) y hy
    · exact h2 _ _ _ _ (by decide) x hx y hy
    · exact h2 _ _ _ _ (by decide) x hx y hy
  · rintro x ((hx | hx) | hx) y hy
    · exact h2 _ _ _ _ (by decide) x hx y hy
    · exact h2 _ _ _ _ (by decide) x hx y hy
    · exact h2 _ _ _ _ (by decide) x hx y hy
theorem places_apart (p : Prg) (hm : Mems p.mems) : (placesS p).Pairwise PApart := by
  unfold placesS
  rw [List.pairwise_append]
  refine ⟨regPlaces_apart p, memPlaces_apart _ _ hm.n, ?_⟩
  intro x hx y hy ⟨h, _⟩
  rw [mem_regPlaces] at hx
  rw [mem_memPlaces p.mems 0 hm.n] at hy
  rw [hx.1, hy.1] at h; cases h

/-! What a place holds. -/
def holdP (s : Sta) (x : Place) : Int := if x.reg then s.reg x.n else rd s.mem x.n
theorem reg_setReg (s : Sta) {r q : Int} (n : Int) (hr : 0 ≤ r ∧ r < 4) (hq : 0 ≤ q ∧ q < 4) : (s.setReg r n).reg q = if q = r then n else s.reg q := by
  have h1 : r = 0 ∨ r = 1 ∨ r = 2 ∨ r = 3 := by omega
  have h2 : q = 0 ∨ q = 1 ∨ q = 2 ∨ q = 3 := by omega
  rcases h1 with rfl | rfl | rfl | rfl <;> rcases h2 with rfl | rfl | rfl | rfl <;> rfl
theorem setReg_mem (s : Sta) (r n : Int) : (s.setReg r n).mem = s.mem ∧ (s.setReg r n).stack = s.stack ∧ (s.setReg r n).pc = s.pc := by
  unfold Sta.setReg
  repeat' split
  all_goals exact ⟨rfl, rfl, rfl⟩
theorem rd_set {l : List Int} {i j : Int} (v : Int) (hi : 0 ≤ i ∧ i < l.length) (hj : 0 ≤ j) : rd (l.set i.toNat v) j = if j = i then v else rd l j := by
  unfold rd
  rw [List.getD_eq_getElem?_getD, List.getD_eq_getElem?_getD, List.getElem?_set]
  by_cases h : j = i
  · subst h; rw [if_pos rfl, if_pos (by omega), if_pos rfl]; rfl
  · rw [if_neg (by omega), if_neg h]
/-! A state that was begun. -/
theorem fill_hold (w : Int) (c : Int) : ∀ (q : List Place) (l : List Int) (s : Sta), PlacesOk q c → q.Pairwise PApart → l.length = q.length → s.mem.length = c →
    (fillS w q l s).mem.length = c ∧ (fillS w q l s).stack = s.stack ∧ (fillS w q l s).pc = s.pc ∧
    (∀ i : Nat, (h : i < q.length) → holdP (fillS w q l s) q[i] = maskS w (rd l i)) ∧
    (∀ r, 0 ≤ r ∧ r < 4 → (∀ x ∈ q, x.reg = true → x.n ≠ r) → (fillS w q l s).reg r = s.reg r) ∧
    (∀ j, 0 ≤ j ∧ j < c → (∀ x ∈ q, x.reg = false → x.n ≠ j) → rd (fillS w q l s).mem j = rd s.mem j)
  | [], l, s, _, _, _, hc => by
    have e : fillS w [] l s = s := by cases l <;> rfl
    rw [e]
    exact ⟨hc, rfl, rfl, fun i h => by simp at h, fun _ _ _ => rfl, fun _ _ _ => rfl⟩
  | x :: q, [], s, _, _, hl, _ => by simp at hl
  | x :: q, n :: l, s, hq, ha, hl, hc => by
    have hx := hq x (by simp)
    have hq' : PlacesOk q c := fun y hy => hq y (by simp [hy])
    obtain ⟨ha1, ha2⟩ := List.pairwise_cons.1 ha
    have e : fillS w (x :: q) (n :: l) s = fillS w q l (putPlace s x (maskS w n)) := rfl
    rw [e]
    obtain ⟨xr, xn, xs⟩ := x
    cases xr with
    | true =>
      have hr0 := hx.1 rfl
      have e2 : putPlace s ⟨true, xn, xs⟩ (maskS w n) = s.setReg xn (maskS w n) := rfl
      rw [e2]
      obtain ⟨m1, m2, m3⟩ := setReg_mem s xn (maskS w n)
      obtain ⟨h1, h2, h3, h4, h5, h6⟩ := fill_hold w c q l (s.setReg xn (maskS w n)) hq' ha2 (by simpa using hl) (by rw [m1]; exact hc)
      refine ⟨h1, h2.trans m2, h3.trans m3, fun i hi => ?_, fun r hr hn => ?_, fun j hj hn => ?_⟩
      · cases i with
        | zero =>
          show holdP _ (⟨true, xn, xs⟩ : Place) = maskS w (rd (n :: l) ((0 : Nat) : Int))
          unfold holdP
          rw [if_pos rfl, h5 xn hr0 fun y hy hyr hyn => ha1 y hy ⟨hyr.symm, hyn.symm⟩, reg_setReg s _ hr0 hr0, if_pos rfl]
          rfl
        | succ i =>
          have h4i := h4 i (by simpa using hi)
          simp only [List.getElem_cons_succ]
          rw [h4i]
          congr 1
      · rw [h5 r hr fun y hy => hn y (by simp [hy]), reg_setReg s _ hr0 hr, if_neg fun e => hn _ (by simp) rfl e.symm]
      · rw [h6 j hj fun y hy => hn y (by simp [hy]), m1]
    | false =>
      have hr0 := hx.2 rfl
      have e2 : putPlace s ⟨false, xn, xs⟩ (maskS w n) = { s with mem := s.mem.set xn.toNat (maskS w n) } := rfl
      rw [e2]
      obtain ⟨h1, h2, h3, h4, h5, h6⟩ := fill_hold w c q l { s with mem := s.mem.set xn.toNat (maskS w n) } hq' ha2 (by simpa using hl) (by simpa using hc)
      refine ⟨h1, h2, h3, fun i hi => ?_, fun r hr hn => ?_, fun j hj hn => ?_⟩
      · cases i with
        | zero =>
          show holdP _ (⟨false, xn, xs⟩ : Place) = maskS w (rd (n :: l) ((0 : Nat) : Int))
          unfold holdP
          rw [if_neg (by simp)]
          show rd (fillS _ _ _ _).mem xn = _
          rw [h6 xn hr0 fun y hy hyr hyn => ha1 y hy ⟨hyr.symm, hyn.symm⟩]
          simp only
          rw [rd_set _ ⟨hr0.1, by omega⟩ hr0.1, if_pos rfl]
          rfl
        | succ i =>
          have h4i := h4 i (by simpa using hi)
          simp only [List.getElem_cons_succ]
          rw [h4i]
          congr 1
      · rw [h5 r hr fun y hy => hn y (by simp [hy])]; rfl
      · rw [h6 j hj fun y hy => hn y (by simp [hy])]
        simp only
        rw [rd_set _ ⟨hr0.1, by omega⟩ hj.1, if_neg fun e => hn _ (by simp) rfl e.symm]
theorem start_hold (p : Prg) (hm : Mems p.mems) (l : List Int) (hl : l.length = (placesS p).length) : ∃ s, startS p l = (s, true) ∧ s.mem.length = cellsS p.mems ∧ s.stack = [] ∧ s.pc = 0 ∧ (∀ i : Nat, (h : i < (placesS p).length) → holdP s (placesS p)[i] = maskS p.w (rd l i)) ∧ (∀ r, 0 ≤ r ∧ r < 4 → p.reg r = 0 → s.reg r = 0) := by
  have h0 := (places_len p hm).2.2
  obtain ⟨h1, h2, h3, h4, h5, h6⟩ := fill_hold p.w (cellsS p.mems) (placesS p) l (zeroSta (cellsS p.mems).toNat) (places_ok p hm) (places_apart p hm) hl (by simp [zeroSta]; omega)
  refine ⟨_, if_pos hl, h1, h2, h3, h4, fun r hr e => ?_⟩
  rw [h5 r hr ?_]
  · have : r = 0 ∨ r = 1 ∨ r = 2 ∨ r = 3 := by omega
    rcases this with rfl | rfl | rfl | rfl <;> rfl
  · intro x hx hxr hn
    rw [mem_places p hm] at hx
    rcases hx with ⟨g1, g2, g3, g4, g5⟩ | ⟨g1, g2, g3, g4⟩
    · rw [hn] at g4; exact g4 e
    · rw [hxr] at g1; cases g1
noncomputable def v_make (x : List Int × Unit) : Prg := makeS x.1
def sh_make (p : Prg) : RR := .agg (p.cells.map .d)
theorem e_make (x : List Int × Unit) : sh_make (v_make x) = c_make.ans x := rfl
def v_states (x : Prg × List Int × Int) : Sta × Sta := statesS x.1 x.2.1 x.2.2
theorem e_states (x : Prg × List Int × Int) : rss (v_states x) = c_states.ans x := rfl
def sh_states (x : Sta × Sta) : RR := rss x
theorem WFM.toMems {p : Prg} (h : WFM p) : Mems p.mems := ⟨by have := h.mems.len; omega, fun m hm => by have := h.mems.n m hm; omega⟩
end Go.Proofs.Ytmhfhobaicklmaa.Ax
end

section
/- One by one: what runs come to; states that were begun; awake of layer 8. -/
namespace Go.Proofs.Ytmhfhobaicklmaa.Ax
open Go.RowKit
set_option linter.unusedVariables false
set_option linter.unusedSimpArgs false
section
variable {cx : Cx} {rs : List RVar} {R : RR → Prop} {x y : VC}
end
theorem start_ok {p : Prg} (hw : okW p.w) (hm : Mems p.mems) (l : List Int) (hl : l.length = (placesS p).length) : StaOk p (startS p l).1 := by
  obtain ⟨s, h0, h1, h2, h3, h4, h5⟩ := start_hold p hm l hl
  have hpos := (pow_small hw).1
  have key : ∀ x ∈ placesS p, 0 ≤ holdP s x ∧ holdP s x < 2 ^ p.w.toNat := by
    intro x hx
    obtain ⟨i, hi, rfl⟩ := List.getElem_of_mem hx
    rw [h4 i hi]
    exact maskS_ok hw _
  rw [h0]
  refine ⟨fun r hr => ?_, fun v hv => ?_, h1, by rw [h2]; simp⟩
  · by_cases e : p.reg r = 0
    · rw [h5 r hr e]; exact ⟨Int.le_refl _, hpos⟩
    · exact key ⟨true, r, decide (p.reg r = 2)⟩ ((mem_places p hm _).2 (.inl ⟨rfl, hr.1, hr.2, e, rfl⟩))
  · obtain ⟨i, hi, rfl⟩ := List.getElem_of_mem hv
    have h1' : (s.mem.length : Int) = cellsS p.mems := h1
    have := key ⟨false, i, secM p.mems i⟩ ((mem_places p hm _).2 (.inr ⟨rfl, by dsimp only; omega, by dsimp only at hi ⊢; omega, rfl⟩))
    unfold holdP at this
    rw [if_neg (by simp)] at this
    dsimp only at this hi ⊢
    rwa [rd_lt _ _ hi] at this
theorem WFM.ok {p : Prg} (h : WFM p) : PrgOk p := by
  have hr := h.regs.hw
  refine ⟨⟨by omega, by omega⟩, h.toMems, by have := h.len; omega, fun i hi => ?_⟩
  have := h.ins i hi
  exact ⟨this.d, this.aN, this.bN⟩
theorem states_ok {p : Prg} (hp : PrgOk p) (l : List Int) (how : Int) : StaOk p (statesS p l how).1 ∧ StaOk p (statesS p l how).2 ∧ (statesS p l how).1.pc = 0 ∧ (statesS p l how).2.pc = 0 ∧ (statesS p l how).1.stack = [] ∧ (statesS p l how).2.stack = [] := by
  have h1 := told_len (placesS p).length (padF l) (placesS p).length
  have h2 := told_len (placesS p).length (twinF how (placesS p) l) (placesS p).length
  obtain ⟨s, a0, a1, a2, a3, a4, a5⟩ := start_hold p hp.mems _ h1
  obtain ⟨t, b0, b1, b2, b3, b4, b5⟩ := start_hold p hp.mems _ h2
  have e1 : (statesS p l how).1 = s := congrArg Prod.fst a0
  have e2 : (statesS p l how).2 = t := congrArg Prod.fst b0
  have g1 := start_ok hp.w hp.mems _ h1
  have g2 := start_ok hp.w hp.mems _ h2
  rw [a0] at g1
  rw [b0] at g2
  rw [e1, e2]
  exact ⟨g1, g2, a3, b3, a2, b2⟩
end Go.Proofs.Ytmhfhobaicklmaa.Ax
end
