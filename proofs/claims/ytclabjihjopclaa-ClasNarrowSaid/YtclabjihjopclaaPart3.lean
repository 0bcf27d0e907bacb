/- Several texts in one, in their order. -/
import Derived.Test.YtclabjihjopclaaPart2
import Derived.Test.YtclabjihjopclaaAxBk
section
/- Ranges over slices.Backward; awake of layers 10, 11, 19, 23. -/
namespace Go.Proofs.Ytclabjihjopclaa.Ax
open Go.RowKit
set_option linter.unusedVariables false
set_option linter.unusedSimpArgs false
theorem backI_ok : BackOK Try.prog 141 none :=
  backward_ok (fn := Try.f141) (t := 22) (u := 3) (by kernel_rfl) rfl rfl rfl (by kernel_rfl) (by kernel_rfl) (by kernel_rfl) (by kernel_rfl) ⟨rfl, rfl, rfl⟩ ⟨rfl, rfl, rfl⟩ ⟨rfl, rfl, rfl⟩ ⟨rfl, rfl, rfl⟩ ⟨rfl, rfl, rfl⟩ ⟨rfl, rfl, rfl⟩ ⟨rfl, rfl, rfl⟩ ⟨rfl, rfl, rfl⟩ ⟨rfl, rfl, rfl⟩ ⟨rfl, rfl, rfl⟩ ⟨rfl, rfl, rfl⟩ ⟨rfl, rfl, rfl⟩ ⟨rfl, rfl, rfl⟩ ⟨rfl, rfl, rfl⟩ ⟨rfl, rfl, rfl⟩ ⟨rfl, rfl, rfl⟩ ⟨rfl, rfl, rfl⟩
theorem backE_ok : BackOK Try.prog 123 (some 8) :=
  backward_ok (fn := Try.f123) (t := 34) (u := 43) (by kernel_rfl) rfl rfl rfl (by kernel_rfl) (by kernel_rfl) (by kernel_rfl) (by kernel_rfl) ⟨rfl, rfl, rfl⟩ ⟨rfl, rfl, rfl⟩ ⟨rfl, rfl, rfl⟩ ⟨rfl, rfl, rfl⟩ ⟨rfl, rfl, rfl⟩ ⟨rfl, rfl, rfl⟩ ⟨rfl, rfl, rfl⟩ ⟨rfl, rfl, rfl⟩ ⟨rfl, rfl, rfl⟩ ⟨rfl, rfl, rfl⟩ ⟨rfl, rfl, rfl⟩ ⟨rfl, rfl, rfl⟩ ⟨rfl, rfl, rfl⟩ ⟨rfl, rfl, rfl⟩ ⟨rfl, rfl, rfl⟩ ⟨rfl, rfl, rfl⟩ ⟨rfl, rfl, rfl⟩
def kdE : List Kd := [.int .i64, .int .i64, .int .i64, .int .i64, .int .i64, .bool, .bool, .bool]
def bkAll (g : FuncId) : Option (Option Nat × List Kd) := if g = 141 then some (none, [.int .i64]) else if g = 123 then some (some 8, kdE) else none
theorem bkAll_ok : BksOK Try.prog bkAll := by
  intro g sh h
  unfold bkAll at h
  split at h
  · rename_i hg; subst hg; cases h
    exact ⟨backI_ok, ⟨Try.f141, by kernel_rfl, by decide +kernel, by kernel_rfl⟩⟩
  · split at h
    · rename_i hg; subst hg; cases h
      exact ⟨backE_ok, ⟨Try.f123, by kernel_rfl, by decide +kernel, by kernel_rfl⟩⟩
    · cases h
/-- seqm.put, seqm.touch and pair.fill are run in their callers' places. -/
noncomputable def Z_all : Zo := mkZ Try.prog 0 [(101, ⟨100000, fun _ => none, fun _ => none⟩), (105, Z_t), (95, ⟨400000, fun _ => none, fun _ => none⟩)] bkAll
theorem Z_all_ok : ZOK Try.prog 2 Z_all := zok_mk fun p hp => by
  simp only [List.mem_cons, List.not_mem_nil, or_false] at hp
  rcases hp with rfl | rfl | rfl
  · exact zok_none _ _ _
  · exact zok_mk fun p hp => by
      simp only [List.mem_cons, List.not_mem_nil, or_false] at hp
      subst hp
      exact zok_none _ _ _
  · exact zok_none _ _ _
theorem awake10 : ACalls Try.prog 30 [] (.c (.d (.bool true))) ∧ Enters Try.prog 30 :=
  axG_sound (n := 60) Z_all_ok extE_sound bkAll_ok 8 (by kernel_rfl)
theorem awake11 : ACalls Try.prog 27 [] (.c (.d (.bool true))) ∧ Enters Try.prog 27 :=
  axG_sound (n := 60) Z_all_ok extE_sound bkAll_ok 8 (by kernel_rfl)
theorem awake19 : ACalls Try.prog 46 [] (.c (.d (.bool true))) ∧ Enters Try.prog 46 :=
  axG_sound (n := 60) Z_all_ok extE_sound bkAll_ok 8 (by kernel_rfl)
theorem awake23 : ACalls Try.prog 65 [] (.c (.d (.bool true))) ∧ Enters Try.prog 65 :=
  axG_sound (n := 60) Z_all_ok extE_sound bkAll_ok 13 (by kernel_rfl)
def c_awake10 : FT Unit := ⟨30, fun _ => [], rd0, fun _ => True, fun _ => rb true, false, fun _ => rfl⟩
theorem c_awake10_good : c_awake10.fe.Good Try.prog := FT.good c_awake10 awake10.2 (fun _ => rfl) fun _ _ => awake10.1
def c_awake11 : FT Unit := ⟨27, fun _ => [], rd0, fun _ => True, fun _ => rb true, false, fun _ => rfl⟩
theorem c_awake11_good : c_awake11.fe.Good Try.prog := FT.good c_awake11 awake11.2 (fun _ => rfl) fun _ _ => awake11.1
def c_awake19 : FT Unit := ⟨46, fun _ => [], rd0, fun _ => True, fun _ => rb true, false, fun _ => rfl⟩
theorem c_awake19_good : c_awake19.fe.Good Try.prog := FT.good c_awake19 awake19.2 (fun _ => rfl) fun _ _ => awake19.1
def c_awake23 : FT Unit := ⟨65, fun _ => [], rd0, fun _ => True, fun _ => rb true, false, fun _ => rfl⟩
theorem c_awake23_good : c_awake23.fe.Good Try.prog := FT.good c_awake23 awake23.2 (fun _ => rfl) fun _ _ => awake23.1
end Go.Proofs.Ytclabjihjopclaa.Ax
end

section
/- What leaks without any guess: clas.Differ; how two runs go side by side. -/
namespace Go.Proofs.Ytclabjihjopclaa.Ax
open Go.RowKit
set_option linter.unusedVariables false
set_option linter.unusedSimpArgs false
def trS (p : Prg) (n : Nat) (s : Sta) : List Obs × Int × Int := ((runS p n s).2.1, (runS p n s).2.2.1, (runS p n s).2.2.2)
def differS (p : Prg) (a b : Sta) : Bool := !decide (trS p p.fuel.toNat a = trS p p.fuel.toNat b)
def c_differ : FT (Prg × Sta × Sta) := ⟨64, fun x => [ap x.1, as_ x.2.1, as_ x.2.2], rdPSS, fun x => Mems x.1.mems ∧ SmallS x.2.1 ∧ SmallS x.2.2 ∧ x.1.ins.length ≤ 1000000 ∧ x.1.fuel ≤ 1000000, fun x => rb (differS x.1 x.2.1 x.2.2), false, fun s => by simp [as_, ap, rdPSS]⟩
noncomputable def a_differ : FnA := (fnA Try.prog Try.f64 3 []).getD ⟨0, .skip, [], []⟩
noncomputable def s_differ : Sp := spT [c_run.gfe v_run sh_run e_run, c_eqO.gfe v_eqO sh_eqO e_eqO]
theorem s_differ_sound : s_differ.sound Try.prog := spT_sound fun e he => by
  simp only [List.mem_cons, List.not_mem_nil, or_false] at he
  rcases he with rfl | rfl
  · exact FT.gfe_good c_run_good
  · exact FT.gfe_good c_eqO_good
set_option maxRecDepth 100000 in
theorem t_differ (p : Prg) (s t : Sta) : a_differ.start s_differ 400 [ap p, as_ s, as_ t] =
(VC.need (PreOk c_run (Prg.of (Prg.cells p), Sta.of (Sta.cells s), p.fuel) [A.agg (Prg.cells p), A.agg (Sta.cells s), A.c (D.int IntKind.i64 p.fuel)])
(VC.all (v_run (Prg.of (Prg.cells p), Sta.of (Sta.cells s), p.fuel)) fun (y3 : Sta × List Obs × Int × Int) =>
(VC.need (PreOk c_run (Prg.of (Prg.cells p), Sta.of (Sta.cells t), p.fuel) [A.agg (Prg.cells p), A.agg (Sta.cells t), A.c (D.int IntKind.i64 p.fuel)])
(VC.all (v_run (Prg.of (Prg.cells p), Sta.of (Sta.cells t), p.fuel)) fun (y4 : Sta × List Obs × Int × Int) =>
(VC.br (y3.snd.snd.fst != y4.snd.snd.fst)
 (VC.ret (some (RR.c (Rc.d (D.bool true)))))
 (VC.br (y3.snd.snd.snd != y4.snd.snd.snd)
  (VC.ret (some (RR.c (Rc.d (D.bool true)))))
  (VC.need (PreOk c_eqO (y3.snd.fst, y4.snd.fst) [A.c (D.sl (rowsOn y3.snd.fst)), A.c (D.sl (rowsOn y4.snd.fst))])
  (VC.all (v_eqO (listOf Obs (rowsOn y3.snd.fst), listOf Obs (rowsOn y4.snd.fst))) fun (y5 : Bool) =>
  (VC.ret (some (RR.c (Rc.d (D.bool !y5))))))))))))) := by kernel_rfl
theorem c_differ_good : c_differ.fe.Good Try.prog := by
  refine FT.good c_differ ⟨Try.f64, by kernel_rfl, by decide +kernel, by kernel_rfl⟩ (fun ⟨p, s, t⟩ => by first | rfl | simp [c_differ, rrRef, rrun, rstep, rins, rnum, rby, rss, rnewI, rnewE, rstab, rplaces, ri, rb, rib, Sta.fresh]) fun ⟨p, s, t⟩ hp => ?_
  refine acalls_le s_differ_sound (fn := Try.f64) (a := a_differ) (nargs := 3) (tbl := []) (by kernel_rfl) (by kernel_rfl) rfl (m := 400) ?_
  show VC.holds _ _ _ (a_differ.start s_differ 400 [ap p, as_ s, as_ t])
  rw [t_differ]
  try simp only [asRows_sl, asInt_int, asBool_bool, asStr_str, listOf_rowsOn, List.drop_zero, Prg.eta, Sta.eta, rowsOn_length, getD_drop, Nat.reduceAdd, rd_int, rd_PMem_name, rd_PMem_secret, rd_PMem_n, rd_PLabel_name, rd_PLabel_at_, rd_Ins_kind, rd_Ins_op, rd_Ins_d, rd_Ins_aR, rd_Ins_aN, rd_Ins_bR, rd_Ins_bN, rd_Ins_name, rd_Ins_target, rd_Ent_pc, rd_Ent_val, rd_Ent_addr, rd_Ent_fro, rd_Ent_next, rd_Ent_done, rd_Ent_known, rd_Ent_fault, rd_Place_reg, rd_Place_n, rd_Place_secret, rd_Obs_kind, rd_Obs_at_, rd_Dir_kind, rd_Dir_n, Prg.of_cells, Sta.of_cells]
  try simp only [c_differ] at hp
  obtain ⟨hm, hs, ht, hl, hf⟩ := hp
  refine ⟨PreOk.mk ⟨hm, hs, hl, hf⟩ rfl, all_holds fun x hx => ⟨PreOk.mk ⟨hm, ht, hl, hf⟩ rfl, all_holds fun y hy => ?_⟩⟩
  replace hx : x = runS p p.fuel.toNat s := hx
  replace hy : y = runS p p.fuel.toNat t := hy
  have e : c_differ.ans (p, s, t) = rb (!decide ((x.2.1, x.2.2.1, x.2.2.2) = (y.2.1, y.2.2.1, y.2.2.2))) := by rw [hx, hy]; rfl
  have hol := (run_len p p.fuel.toNat s).2.2.1
  rw [← hx] at hol
  rw [e]
  clear e hx hy
  repeat' first
    | refine br_not ?_
    | refine br_dec (fun _ => ?_) (fun _ => ?_)
    | refine br_beq (fun _ => ?_) (fun _ => ?_)
    | refine br_bne (fun _ => ?_) (fun _ => ?_)
    | refine br_holds (fun _ => ?_) (fun _ => ?_)
    | refine ⟨PreOk.mk ?_ rfl, ?_⟩
    | refine ⟨idx_ok _ _ _ rfl (by omega) (by omega), ?_⟩
    | refine ⟨okSh_ok _ _ _ (fun _ => rfl) (by omega) (by omega), ?_⟩
    | refine ⟨okSh_okD _ _ _ _ (fun _ => rfl) (by omega) (by omega), ?_⟩
    | refine ⟨aload_ok _ _ rfl (fun _ => rfl) (by omega) (by omega), ?_⟩
    | refine ⟨aload_okD _ _ _ rfl (fun _ => rfl) (by omega) (by omega), ?_⟩
    | refine ⟨astore_ok (by assumption) rfl (by omega) (by omega) (by decide), ?_⟩
    | refine ⟨app_ok (by assumption) rfl rfl (by simp only [List.length_cons, List.length_nil]; omega), ?_⟩
    | refine need_holds ?_ fun _ => ?_
    | refine all_holds fun y hy => ?_
    | refine ret_le ?_
  all_goals try (dsimp only [c_eqO]; omega)
  all_goals refine rb_le ?_
  all_goals subst_vars
  all_goals simp_all [v_eqO]
noncomputable def v_differ : Prg × Sta × Sta → Bool := fun x => differS x.1 x.2.1 x.2.2
noncomputable def sh_differ : Bool → RR := fun b => rb b
theorem e_differ (x : Prg × Sta × Sta) : sh_differ (v_differ x) = c_differ.ans x := rfl
/-- Two states that go side by side. -/
def Lk (a b : Sta) : Prop := a.pc = b.pc ∧ a.stack = b.stack
/-- Where neither ends, both show as much; and where they show the same they go on side by side. -/
theorem step_lock (p : Prg) {a b : Sta} (h : Lk a b) (ha : (stepS p a).2.2 = 0) (hb : (stepS p b).2.2 = 0) : (stepS p a).2.1.length = (stepS p b).2.1.length ∧ ((stepS p a).2.1 = (stepS p b).2.1 → Lk (stepS p a).1 (stepS p b).1) := by
  obtain ⟨h1, h2⟩ := h
  have g1 := fun n => (setReg_mem a (atS p.ins a.pc).d n).2
  have g2 := fun n => (setReg_mem b (atS p.ins a.pc).d n).2
  rw [stepS_B] at ha
  rw [stepS_B] at hb
  rw [stepS_B, stepS_B p b]
  rw [← h1] at hb ⊢
  generalize maskS p.w (valS p.w a (atS p.ins a.pc).aR (atS p.ins a.pc).aN + valS p.w a (atS p.ins a.pc).bR (atS p.ins a.pc).bN) = A at ha ⊢
  generalize maskS p.w (valS p.w b (atS p.ins a.pc).aR (atS p.ins a.pc).aN + valS p.w b (atS p.ins a.pc).bR (atS p.ins a.pc).bN) = B at hb ⊢
  generalize valS p.w a (atS p.ins a.pc).aR (atS p.ins a.pc).aN = a1 at ha ⊢
  generalize valS p.w a (atS p.ins a.pc).bR (atS p.ins a.pc).bN = a2 at ha ⊢
  generalize valS p.w b (atS p.ins a.pc).aR (atS p.ins a.pc).aN = b1 at hb ⊢
  generalize valS p.w b (atS p.ins a.pc).bR (atS p.ins a.pc).bN = b2 at hb ⊢
  generalize atS p.ins a.pc = i at *
  unfold stepB at *
  by_cases k1 : i.kind = 1 ∨ i.kind = 4
  · simp only [if_pos k1]
    exact ⟨by first | rfl | exact trivial, fun _ => ⟨by dsimp only; rw [h1], by dsimp only; rw [(g1 _).1, (g2 _).1, h2]⟩⟩
  simp only [if_neg k1] at *
  by_cases k2 : i.kind = 2
  · simp only [if_pos k2] at *
    split at ha
    · split at hb
      · rename_i c1 c2
        rw [if_pos c1, if_pos c2]
        exact ⟨by first | rfl | exact trivial, fun _ => ⟨by dsimp only; rw [h1], by dsimp only; rw [(g1 _).1, (g2 _).1, h2]⟩⟩
      · cases hb
    · cases ha
  simp only [if_neg k2] at *
  by_cases k3 : i.kind = 3
  · simp only [if_pos k3] at *
    split at ha
    · split at hb
      · rename_i c1 c2
        rw [if_pos c1, if_pos c2]
        exact ⟨by first | rfl | exact trivial, fun _ => ⟨by dsimp only; rw [h1], h2⟩⟩
      · cases hb
    · cases ha
  simp only [if_neg k3] at *
  by_cases k4 : i.kind = 5 ∨ i.kind = 7
  · simp only [if_pos k4] at *
    exact ⟨by first | rfl | exact trivial, fun h => ⟨by simpa using h, h2⟩⟩
  simp only [if_neg k4] at *
  by_cases k5 : i.kind = 6
  · simp only [if_pos k5] at *
    exact ⟨by first | rfl | exact trivial, fun h => ⟨rfl, h2⟩⟩
  simp only [if_neg k5] at *
  by_cases k6 : i.kind = 8
  · simp only [if_pos k6] at *
    split at ha
    · cases ha
    · split at hb
      · cases hb
      · rename_i c1 c2
        rw [if_neg c1, if_neg c2]
        exact ⟨by first | rfl | exact trivial, fun h => ⟨rfl, by dsimp only; rw [h1, h2]⟩⟩
  simp only [if_neg k6] at *
  by_cases k7 : i.kind = 9
  · simp only [if_pos k7] at *
    split at ha
    · cases ha
    · split at hb
      · cases hb
      · rename_i c1 c2
        rw [if_neg c1, if_neg c2]
        exact ⟨by first | rfl | exact trivial, fun h => ⟨by dsimp only; rw [h2], by dsimp only; rw [h2]⟩⟩
  simp only [if_neg k7] at *
  by_cases k8 : i.kind = 10
  · simp only [if_pos k8] at *
    exact ⟨by first | rfl | exact trivial, fun h => ⟨by dsimp only; rw [h1], h2⟩⟩
  simp only [if_neg k8] at *
  split at ha <;> cases ha
theorem run_zero {p : Prg} {n : Nat} {s : Sta} (h : (runS p n s).2.2.1 = 0) : n = 0 := by
  cases n with
  | zero => rfl
  | succ n =>
    exfalso
    by_cases h0 : (stepS p s).2.2 = 0
    · rw [runS_go h0] at h
      have := (run_len p n (stepS p s).1).2.2.2.1
      dsimp only at h
      omega
    · rw [runS_stop h0] at h
      cases h
/-- What is the same with more fuel was the same with less. -/
theorem trace_less (p : Prg) (m : Nat) : ∀ (n : Nat) {a b : Sta}, Lk a b → trS p (n + m) a = trS p (n + m) b → trS p n a = trS p n b
  | 0, a, b, _, _ => rfl
  | n + 1, a, b, hl, h => by
    rw [show n + 1 + m = n + m + 1 by omega] at h
    by_cases ha : (stepS p a).2.2 = 0
    · by_cases hb : (stepS p b).2.2 = 0
      · obtain ⟨h1, h2⟩ := step_lock p hl ha hb
        unfold trS at h ⊢
        rw [runS_go ha, runS_go hb] at h
        rw [runS_go ha, runS_go hb]
        simp only [Prod.mk.injEq] at h ⊢
        obtain ⟨g1, g2, g3⟩ := h
        obtain ⟨g4, g5⟩ := List.append_inj g1 h1
        have ih := trace_less p m n (h2 g4) (by unfold trS; rw [g5, g3, show (runS p (n + m) (stepS p a).1).2.2.1 = (runS p (n + m) (stepS p b).1).2.2.1 by omega])
        unfold trS at ih
        simp only [Prod.mk.injEq] at ih
        obtain ⟨i1, i2, i3⟩ := ih
        exact ⟨by rw [g4, i1], by rw [i2], i3⟩
      · exfalso
        unfold trS at h
        rw [runS_go ha, runS_stop hb] at h
        simp only [Prod.mk.injEq] at h
        have h0 := run_zero (p := p) (n := n + m) (s := (stepS p a).1) (by omega)
        have hn : n = 0 ∧ m = 0 := by omega
        obtain ⟨rfl, rfl⟩ := hn
        exact hb (by rw [← h.2.2]; rfl)
    · by_cases hb : (stepS p b).2.2 = 0
      · exfalso
        unfold trS at h
        rw [runS_go hb, runS_stop ha] at h
        simp only [Prod.mk.injEq] at h
        have h0 := run_zero (p := p) (n := n + m) (s := (stepS p b).1) (by omega)
        have hn : n = 0 ∧ m = 0 := by omega
        obtain ⟨rfl, rfl⟩ := hn
        exact ha (by rw [h.2.2]; rfl)
      · unfold trS at h ⊢
        rw [runS_stop ha, runS_stop hb] at h ⊢
        exact h
theorem run_fuel (p : Prg) (f : Int) : ∀ (n : Nat) (s : Sta), runS { p with fuel := f } n s = runS p n s
  | 0, _ => rfl
  | n + 1, s => by
    have e : stepS { p with fuel := f } s = stepS p s := rfl
    by_cases h : (stepS p s).2.2 = 0
    · rw [runS_go h, runS_go (p := { p with fuel := f }) (by rw [e]; exact h), e, run_fuel p f n]
    · rw [runS_stop h, runS_stop (p := { p with fuel := f }) (by rw [e]; exact h), e]
theorem differ_fuel (p : Prg) (f : Int) (a b : Sta) : differS { p with fuel := f } a b = !decide (trS p f.toNat a = trS p f.toNat b) := by
  unfold differS trS
  simp only [run_fuel]
theorem differ_more (p : Prg) {f : Int} (hf : 0 ≤ f) {a b : Sta} (hl : Lk a b) (h : differS { p with fuel := f } a b = true) : differS { p with fuel := f + 5 } a b = true := by
  rw [differ_fuel] at h ⊢
  simp only [Bool.not_eq_true', decide_eq_false_iff_not] at h ⊢
  rw [show (f + 5).toNat = f.toNat + 5 by omega]
  exact fun he => h (trace_less p 5 f.toNat hl he)
end Go.Proofs.Ytclabjihjopclaa.Ax
end

section
/- A register that no instruction names: two states that differ in it alone run alike. -/
namespace Go.Proofs.Ytclabjihjopclaa.Ax
open Go.RowKit
set_option linter.unusedVariables false
set_option linter.unusedSimpArgs false
def no3 (i : Ins) : Prop := i.d ≠ 3 ∧ ¬(i.aR = true ∧ i.aN = 3) ∧ ¬(i.bR = true ∧ i.bN = 3)
def Sta.with3 (s : Sta) (x : Int) : Sta := { s with r3 := x }
theorem reg_with3 (s : Sta) (x : Int) {r : Int} (h : r ≠ 3) : (s.with3 x).reg r = s.reg r := by
  simp [Sta.reg, Sta.with3, h]
theorem setReg_with3 (s : Sta) (x v : Int) {r : Int} (h : r ≠ 3) : (s.with3 x).setReg r v = (s.setReg r v).with3 x := by
  unfold Sta.setReg Sta.with3
  simp only [if_neg h]
  split
  · rfl
  · split
    · rfl
    · split <;> rfl
theorem valS_with3 (w : Int) (s : Sta) (x : Int) (r : Bool) {n : Int} (h : ¬(r = true ∧ n = 3)) : valS w (s.with3 x) r n = valS w s r n := by
  unfold valS
  split
  · rename_i hr
    rw [reg_with3 s x (fun e => h ⟨hr, e⟩)]
  · rfl
theorem stepB_with3 (p : Prg) (s : Sta) (x : Int) (i : Ins) (a b A : Int) (h : i.d ≠ 3) : stepB p (s.with3 x) i a b A = ((stepB p s i a b A).1.with3 x, (stepB p s i a b A).2) := by
  unfold stepB
  rw [reg_with3 s x h]
  simp only [setReg_with3 s x _ h]
  have e1 : (s.with3 x).pc = s.pc := rfl
  have e2 : (s.with3 x).mem = s.mem := rfl
  have e3 : (s.with3 x).stack = s.stack := rfl
  rw [e1, e2, e3]
  repeat' split
  all_goals rfl
theorem step_with3 (p : Prg) (s : Sta) (x : Int) (h : ∀ i ∈ p.ins, no3 i) : stepS p (s.with3 x) = ((stepS p s).1.with3 x, (stepS p s).2) := by
  have hi : no3 (atS p.ins s.pc) := by
    unfold atS
    split
    · exact ⟨by decide, by decide, by decide⟩
    · exact h _ (rd_mem _ _ (by omega) (by omega))
  rw [stepS_B, stepS_B p s]
  have e1 : (s.with3 x).pc = s.pc := rfl
  rw [e1, valS_with3 _ _ _ _ hi.2.1, valS_with3 _ _ _ _ hi.2.2]
  exact stepB_with3 p s x _ _ _ _ hi.1
theorem run_with3 (p : Prg) (x : Int) (h : ∀ i ∈ p.ins, no3 i) : (n : Nat) → (s : Sta) → runS p n (s.with3 x) = ((runS p n s).1.with3 x, (runS p n s).2)
  | 0, s => rfl
  | n + 1, s => by
    show (if (stepS p (s.with3 x)).2.2 ≠ 0 then ((stepS p (s.with3 x)).1, (stepS p (s.with3 x)).2.1, 1, (stepS p (s.with3 x)).2.2) else ((runS p n (stepS p (s.with3 x)).1).1, (stepS p (s.with3 x)).2.1 ++ (runS p n (stepS p (s.with3 x)).1).2.1, (runS p n (stepS p (s.with3 x)).1).2.2.1 + 1, (runS p n (stepS p (s.with3 x)).1).2.2.2)) = _
    rw [step_with3 p s x h]
    show _ = ((if (stepS p s).2.2 ≠ 0 then ((stepS p s).1, (stepS p s).2.1, 1, (stepS p s).2.2) else ((runS p n (stepS p s).1).1, (stepS p s).2.1 ++ (runS p n (stepS p s).1).2.1, (runS p n (stepS p s).1).2.2.1 + 1, (runS p n (stepS p s).1).2.2.2)).1.with3 x, (if (stepS p s).2.2 ≠ 0 then ((stepS p s).1, (stepS p s).2.1, (1 : Int), (stepS p s).2.2) else ((runS p n (stepS p s).1).1, (stepS p s).2.1 ++ (runS p n (stepS p s).1).2.1, (runS p n (stepS p s).1).2.2.1 + 1, (runS p n (stepS p s).1).2.2.2)).2)
    by_cases hc : (stepS p s).2.2 ≠ 0
    · rw [if_pos hc, if_pos hc]
    · rw [if_neg hc, if_neg hc]
      dsimp only
      rw [run_with3 p x h n]
theorem differ_with3 (p : Prg) (s : Sta) (x y : Int) (h : ∀ i ∈ p.ins, no3 i) : differS p (s.with3 x) (s.with3 y) = false := by
  unfold differS trS
  rw [run_with3 p x h, run_with3 p y h]
  simp
end Go.Proofs.Ytclabjihjopclaa.Ax
end

section
/- The statement ClasNarrow. -/
namespace Go.Proofs.Ytclabjihjopclaa.Ax
open Go.RowKit
set_option linter.unusedVariables false
set_option linter.unusedSimpArgs false
def rdLLII2 : List A → List Int × List Int × Int × Int
  | [.c (.sl l), .c (.sl m), .c (.int _ i), .c (.int _ j)] => (listOf Int l, listOf Int m, i, j)
  | _ => default
def c_lNarrow : FT (List Int × List Int × Int × Int) := ⟨20, fun x => [al x.1, al x.2.1, ai x.2.2.1, ai x.2.2.2], rdLLII2, fun _ => True, fun x => rb true, false, fun x => by simp [al, ai, rdLLII2]⟩
noncomputable def a_lNarrow : FnA := (fnA Try.prog Try.f20 4 [(4, [1, 2, 3, 9, 24, 25, 3000576009000900009009]), (1000000016, [1, 2, 3, 9, 11, 24, 25, 3000576009000900009009]), (1000000018, [1, 2, 3, 9, 11, 24, 25, 3000576009000900009009]), (1000000020, [1, 2, 3, 9, 24, 25, 3000576009000900009009])]).getD ⟨0, .skip, [], []⟩
noncomputable def s_lNarrow : Sp := spT [c_make.gfe v_make sh_make e_make, c_states.gfe v_states sh_states e_states, c_differ.gfe v_differ sh_differ e_differ, c_awake23.fe]
theorem s_lNarrow_sound : s_lNarrow.sound Try.prog := spT_sound fun e he => by
  simp only [List.mem_cons, List.not_mem_nil, or_false] at he
  rcases he with rfl | rfl | rfl | rfl
  · exact FT.gfe_good c_make_good
  · exact FT.gfe_good c_states_good
  · exact FT.gfe_good c_differ_good
  · exact c_awake23_good
def nb (p : Prg) (R : List (List D)) (n : Nat) : List (Nat × Blk) := [(576, bc [.d (.int .i64 p.w), .d (.int .i64 p.window), .d (.int .i64 p.fuel), .d (.int .i64 p.r0), .d (.int .i64 p.r1), .d (.int .i64 p.r2), .d (.int .i64 p.r3), .d (.sl (rowsOn p.mems)), .d (.sl (rowsOn p.labels)), .own 900009 1 n]), (900009, ba 9 R)]
def F_na (p : Prg) (l : List Int) (a b : Int) (R : List (List D)) (n : Nat) (N k : Int) : St := ⟨mkS 108 [(1, vr (rowsOn l)), (2, vi a), (3, vi b), (9, vp 576), (24, vi N), (25, vi k)], nb p R n⟩
def F_nb (p : Prg) (l : List Int) (a b : Int) (R : List (List D)) (n : Nat) (N k : Int) : St := ⟨mkS 108 [(1, vr (rowsOn l)), (2, vi a), (3, vi b), (9, vp 576), (11, .c (.aptr 900009 1 k.toNat 0)), (24, vi N), (25, vi k)], nb p R n⟩
set_option maxRecDepth 100000 in
theorem t_lNarrow (m l : List Int) (a b : Int) : a_lNarrow.start s_lNarrow 400 [al m, al l, ai a, ai b] =
(VC.need (PreOk c_make (m, ()) [A.c (D.sl (rowsOn m))])
(VC.all (v_make (listOf Int (rowsOn m), ())) fun (y4 : Prg) =>
(VC.need ((List.all (rowsOn y4.ins) fun r ↦ List.length r == (9 : Nat)) = true ∧ (List.all ([] : List (List D)) fun r ↦ List.length r == (9 : Nat)) = true ∧ ((0 : Nat) + List.length (rowsOn y4.ins) + (100 : Nat)) * (81 : Nat) ≤ (70368744177664 : Nat))
(FnA.at_ a_lNarrow 0 (F_na y4 l a b ([] ++ rowsOn y4.ins) ((0 : Nat) + List.length (rowsOn y4.ins)) (↑((0 : Nat) + List.length (rowsOn y4.ins)) : Int) (0 : Int)))))) := by kernel_rfl
set_option maxRecDepth 100000 in
theorem t_na0 (p : Prg) (l : List Int) (a b : Int) (R : List (List D)) (n : Nat) (N k : Int) : a_lNarrow.round s_lNarrow 400 0 (F_na p l a b R n N k) =
(VC.br (decide (k < N))
 (VC.need ((0 : Int) ≤ k ∧ k < (↑n : Int))
 (VC.need (Int.toNat k < List.length R ∧ List.length (rowAt R (Int.toNat k)) = (9 : Nat) ∧ okSh [Kd.int IntKind.i64] (List.drop (2 : Nat) (rowAt R (Int.toNat k))))
 (VC.br (asInt (List.getD (List.drop (2 : Nat) (rowAt R (Int.toNat k))) (0 : Nat) D.nilp) == (3 : Int))
  (VC.need (Int.toNat k < List.length R ∧ List.length (rowAt R (Int.toNat k)) = (9 : Nat) ∧ (3 : Nat) ≤ (9 : Nat))
  (FnA.at_ a_lNarrow 1 (F_nb p l a b (List.set R (Int.toNat k) (splice (rowAt R (Int.toNat k)) (2 : Nat) [D.int IntKind.i64 (2 : Int)])) n N k)))
  (FnA.at_ a_lNarrow 1 (F_nb p l a b R n N k)))))
 (VC.need (PreOk c_states (Prg.of [D.int IntKind.i64 p.w, D.int IntKind.i64 p.window, D.int IntKind.i64 p.fuel, D.int IntKind.i64 p.r0, D.int IntKind.i64 p.r1, D.int IntKind.i64 p.r2, D.int IntKind.i64 p.r3, D.sl (rowsOn p.mems), D.sl (rowsOn p.labels), D.sl R], l, (1 : Int)) [A.agg [D.int IntKind.i64 p.w, D.int IntKind.i64 p.window, D.int IntKind.i64 p.fuel, D.int IntKind.i64 p.r0, D.int IntKind.i64 p.r1, D.int IntKind.i64 p.r2, D.int IntKind.i64 p.r3, D.sl (rowsOn p.mems), D.sl (rowsOn p.labels), D.sl R], A.c (D.sl (rowsOn l)), A.c (D.int IntKind.i64 (1 : Int))])
 (VC.all (((startS (Prg.of [D.int IntKind.i64 p.w, D.int IntKind.i64 p.window, D.int IntKind.i64 p.fuel, D.int IntKind.i64 p.r0, D.int IntKind.i64 p.r1, D.int IntKind.i64 p.r2, D.int IntKind.i64 p.r3, D.sl (rowsOn p.mems), D.sl (rowsOn p.labels), D.sl R]) (toldS (List.length (placesS (Prg.of [D.int IntKind.i64 p.w, D.int IntKind.i64 p.window, D.int IntKind.i64 p.fuel, D.int IntKind.i64 p.r0, D.int IntKind.i64 p.r1, D.int IntKind.i64 p.r2, D.int IntKind.i64 p.r3, D.sl (rowsOn p.mems), D.sl (rowsOn p.labels), D.sl R]))) (padF (listOf Int (rowsOn l))) (List.length (placesS (Prg.of [D.int IntKind.i64 p.w, D.int IntKind.i64 p.window, D.int IntKind.i64 p.fuel, D.int IntKind.i64 p.r0, D.int IntKind.i64 p.r1, D.int IntKind.i64 p.r2, D.int IntKind.i64 p.r3, D.sl (rowsOn p.mems), D.sl (rowsOn p.labels), D.sl R]))))).fst, (startS (Prg.of [D.int IntKind.i64 p.w, D.int IntKind.i64 p.window, D.int IntKind.i64 p.fuel, D.int IntKind.i64 p.r0, D.int IntKind.i64 p.r1, D.int IntKind.i64 p.r2, D.int IntKind.i64 p.r3, D.sl (rowsOn p.mems), D.sl (rowsOn p.labels), D.sl R]) (toldS (List.length (placesS (Prg.of [D.int IntKind.i64 p.w, D.int IntKind.i64 p.window, D.int IntKind.i64 p.fuel, D.int IntKind.i64 p.r0, D.int IntKind.i64 p.r1, D.int IntKind.i64 p.r2, D.int IntKind.i64 p.r3, D.sl (rowsOn p.mems), D.sl (rowsOn p.labels), D.sl R]))) (twinF (1 : Int) (placesS (Prg.of [D.int IntKind.i64 p.w, D.int IntKind.i64 p.window, D.int IntKind.i64 p.fuel, D.int IntKind.i64 p.r0, D.int IntKind.i64 p.r1, D.int IntKind.i64 p.r2, D.int IntKind.i64 p.r3, D.sl (rowsOn p.mems), D.sl (rowsOn p.labels), D.sl R])) (listOf Int (rowsOn l))) (List.length (placesS (Prg.of [D.int IntKind.i64 p.w, D.int IntKind.i64 p.window, D.int IntKind.i64 p.fuel, D.int IntKind.i64 p.r0, D.int IntKind.i64 p.r1, D.int IntKind.i64 p.r2, D.int IntKind.i64 p.r3, D.sl (rowsOn p.mems), D.sl (rowsOn p.labels), D.sl R]))))).fst)) fun (y8 : Sta × Sta) =>
 (VC.need ((0 : Int) ≤ IntKind.wrap IntKind.u64 p.w)
 (VC.need ((0 : Int) ≤ IntKind.wrap IntKind.u64 p.w)
 (VC.need (PreOk c_differ (Prg.of [D.int IntKind.i64 p.w, D.int IntKind.i64 p.window, D.int IntKind.i64 p.fuel, D.int IntKind.i64 p.r0, D.int IntKind.i64 p.r1, D.int IntKind.i64 p.r2, D.int IntKind.i64 p.r3, D.sl (rowsOn p.mems), D.sl (rowsOn p.labels), D.sl R], Sta.of [D.int IntKind.i64 y8.fst.r0, D.int IntKind.i64 y8.fst.r1, D.int IntKind.i64 y8.fst.r2, D.int IntKind.i64 (bits BinOp.and IntKind.i64 a (IntKind.wrap IntKind.i64 (IntKind.wrap IntKind.i64 ((1 : Int) * (2 : Int) ^ min (Int.toNat (IntKind.wrap IntKind.u64 p.w)) (64 : Nat)) - (1 : Int)))), D.sl (rowsOn y8.fst.mem), D.sl (rowsOn y8.fst.stack), D.int IntKind.i64 y8.fst.pc], Sta.of [D.int IntKind.i64 y8.fst.r0, D.int IntKind.i64 y8.fst.r1, D.int IntKind.i64 y8.fst.r2, D.int IntKind.i64 (bits BinOp.and IntKind.i64 b (IntKind.wrap IntKind.i64 (IntKind.wrap IntKind.i64 ((1 : Int) * (2 : Int) ^ min (Int.toNat (IntKind.wrap IntKind.u64 p.w)) (64 : Nat)) - (1 : Int)))), D.sl (rowsOn y8.fst.mem), D.sl (rowsOn y8.fst.stack), D.int IntKind.i64 y8.fst.pc]) [A.agg [D.int IntKind.i64 p.w, D.int IntKind.i64 p.window, D.int IntKind.i64 p.fuel, D.int IntKind.i64 p.r0, D.int IntKind.i64 p.r1, D.int IntKind.i64 p.r2, D.int IntKind.i64 p.r3, D.sl (rowsOn p.mems), D.sl (rowsOn p.labels), D.sl R], A.agg [D.int IntKind.i64 y8.fst.r0, D.int IntKind.i64 y8.fst.r1, D.int IntKind.i64 y8.fst.r2, D.int IntKind.i64 (bits BinOp.and IntKind.i64 a (IntKind.wrap IntKind.i64 (IntKind.wrap IntKind.i64 ((1 : Int) * (2 : Int) ^ min (Int.toNat (IntKind.wrap IntKind.u64 p.w)) (64 : Nat)) - (1 : Int)))), D.sl (rowsOn y8.fst.mem), D.sl (rowsOn y8.fst.stack), D.int IntKind.i64 y8.fst.pc], A.agg [D.int IntKind.i64 y8.fst.r0, D.int IntKind.i64 y8.fst.r1, D.int IntKind.i64 y8.fst.r2, D.int IntKind.i64 (bits BinOp.and IntKind.i64 b (IntKind.wrap IntKind.i64 (IntKind.wrap IntKind.i64 ((1 : Int) * (2 : Int) ^ min (Int.toNat (IntKind.wrap IntKind.u64 p.w)) (64 : Nat)) - (1 : Int)))), D.sl (rowsOn y8.fst.mem), D.sl (rowsOn y8.fst.stack), D.int IntKind.i64 y8.fst.pc]])
 (VC.all (v_differ (Prg.of [D.int IntKind.i64 p.w, D.int IntKind.i64 p.window, D.int IntKind.i64 p.fuel, D.int IntKind.i64 p.r0, D.int IntKind.i64 p.r1, D.int IntKind.i64 p.r2, D.int IntKind.i64 p.r3, D.sl (rowsOn p.mems), D.sl (rowsOn p.labels), D.sl R], Sta.of [D.int IntKind.i64 y8.fst.r0, D.int IntKind.i64 y8.fst.r1, D.int IntKind.i64 y8.fst.r2, D.int IntKind.i64 (bits BinOp.and IntKind.i64 a (IntKind.wrap IntKind.i64 (IntKind.wrap IntKind.i64 ((1 : Int) * (2 : Int) ^ min (Int.toNat (IntKind.wrap IntKind.u64 p.w)) (64 : Nat)) - (1 : Int)))), D.sl (rowsOn y8.fst.mem), D.sl (rowsOn y8.fst.stack), D.int IntKind.i64 y8.fst.pc], Sta.of [D.int IntKind.i64 y8.fst.r0, D.int IntKind.i64 y8.fst.r1, D.int IntKind.i64 y8.fst.r2, D.int IntKind.i64 (bits BinOp.and IntKind.i64 b (IntKind.wrap IntKind.i64 (IntKind.wrap IntKind.i64 ((1 : Int) * (2 : Int) ^ min (Int.toNat (IntKind.wrap IntKind.u64 p.w)) (64 : Nat)) - (1 : Int)))), D.sl (rowsOn y8.fst.mem), D.sl (rowsOn y8.fst.stack), D.int IntKind.i64 y8.fst.pc])) fun (y9 : Bool) =>
 (VC.br (!y9)
  (VC.need (PreOk c_awake23 PUnit.unit [])
  (VC.ret (some (RR.c (Rc.d (D.bool true))))))
  (VC.ret (some (RR.c (Rc.d (D.bool false))))))))))))) := by kernel_rfl
set_option maxRecDepth 100000 in
theorem t_na1 (p : Prg) (l : List Int) (a b : Int) (R : List (List D)) (n : Nat) (N k : Int) : a_lNarrow.round s_lNarrow 400 1 (F_nb p l a b R n N k) =
(VC.need (Int.toNat k < List.length R ∧ List.length (rowAt R (Int.toNat k)) = (9 : Nat) ∧ okSh [Kd.bool] (List.drop (3 : Nat) (rowAt R (Int.toNat k))))
(VC.br (asBool (List.getD (List.drop (3 : Nat) (rowAt R (Int.toNat k))) (0 : Nat) D.nilp))
 (VC.need (Int.toNat k < List.length R ∧ List.length (rowAt R (Int.toNat k)) = (9 : Nat) ∧ okSh [Kd.int IntKind.i64] (List.drop (4 : Nat) (rowAt R (Int.toNat k))))
 (VC.br (asInt (List.getD (List.drop (4 : Nat) (rowAt R (Int.toNat k))) (0 : Nat) D.nilp) == (3 : Int))
  (VC.need (Int.toNat k < List.length R ∧ List.length (rowAt R (Int.toNat k)) = (9 : Nat) ∧ (5 : Nat) ≤ (9 : Nat))
  (FnA.at_ a_lNarrow 2 (F_nb p l a b (List.set R (Int.toNat k) (splice (rowAt R (Int.toNat k)) (4 : Nat) [D.int IntKind.i64 (2 : Int)])) n N k)))
  (FnA.at_ a_lNarrow 2 (F_nb p l a b R n N k))))
 (FnA.at_ a_lNarrow 2 (F_nb p l a b R n N k)))) := by kernel_rfl
set_option maxRecDepth 100000 in
theorem t_na2 (p : Prg) (l : List Int) (a b : Int) (R : List (List D)) (n : Nat) (N k : Int) : a_lNarrow.round s_lNarrow 400 2 (F_nb p l a b R n N k) =
(VC.need (Int.toNat k < List.length R ∧ List.length (rowAt R (Int.toNat k)) = (9 : Nat) ∧ okSh [Kd.bool] (List.drop (5 : Nat) (rowAt R (Int.toNat k))))
(VC.br (asBool (List.getD (List.drop (5 : Nat) (rowAt R (Int.toNat k))) (0 : Nat) D.nilp))
 (VC.need (Int.toNat k < List.length R ∧ List.length (rowAt R (Int.toNat k)) = (9 : Nat) ∧ okSh [Kd.int IntKind.i64] (List.drop (6 : Nat) (rowAt R (Int.toNat k))))
 (VC.br (asInt (List.getD (List.drop (6 : Nat) (rowAt R (Int.toNat k))) (0 : Nat) D.nilp) == (3 : Int))
  (VC.need (Int.toNat k < List.length R ∧ List.length (rowAt R (Int.toNat k)) = (9 : Nat) ∧ (7 : Nat) ≤ (9 : Nat))
  (FnA.at_ a_lNarrow 3 (F_na p l a b (List.set R (Int.toNat k) (splice (rowAt R (Int.toNat k)) (6 : Nat) [D.int IntKind.i64 (2 : Int)])) n N k)))
  (FnA.at_ a_lNarrow 3 (F_na p l a b R n N k))))
 (FnA.at_ a_lNarrow 3 (F_na p l a b R n N k)))) := by kernel_rfl
set_option maxRecDepth 100000 in
theorem t_na3 (p : Prg) (l : List Int) (a b : Int) (R : List (List D)) (n : Nat) (N k : Int) : a_lNarrow.round s_lNarrow 400 3 (F_na p l a b R n N k) =
(FnA.at_ a_lNarrow 0 (F_na p l a b R n N (IntKind.wrap IntKind.i64 (k + (1 : Int))))) := by kernel_rfl
/-- So far no instruction names register 3. -/
structure NInv (p : Prg) (L : List Ins) (k : Int) : Prop where
  len : L.length = p.ins.length
  ok : ∀ i ∈ L, InsOk i
  k0 : 0 ≤ k
  k1 : k ≤ L.length
  done : ∀ j : Int, 0 ≤ j ∧ j < k → no3 (rd L j)
theorem ins_set (L : List Ins) {k j : Int} (x : Ins) (h0 : 0 ≤ k) (h : k < L.length) (hj : 0 ≤ j) : rd (L.set k.toNat x) j = if j = k then x else rd L j := by
  unfold rd
  rw [List.getD_eq_getElem?_getD, List.getD_eq_getElem?_getD, List.getElem?_set]
  by_cases e : j = k
  · subst e
    rw [if_pos rfl, if_pos (by omega), if_pos rfl]
    rfl
  · rw [if_neg (by omega), if_neg e]
theorem NInv.set {p : Prg} {L : List Ins} {k : Int} (h : NInv p L k) (hk : k < L.length) {x : Ins} (hx : InsOk x) : NInv p (L.set k.toNat x) k ∧ rd (L.set k.toNat x) k = x := by
  refine ⟨⟨by rw [List.length_set]; exact h.len, fun i hi => ?_, h.k0, by rw [List.length_set]; exact h.k1, fun j hj => ?_⟩, by rw [ins_set L x h.k0 hk h.k0, if_pos rfl]⟩
  · rcases List.mem_or_eq_of_mem_set hi with h1 | h1
    · exact h.ok i h1
    · rw [h1]; exact hx
  · rw [ins_set L x h.k0 hk hj.1, if_neg (by omega)]
    exact h.done j hj
theorem NInv.next {p : Prg} {L : List Ins} {k : Int} (h : NInv p L k) (hk : k < L.length) (h3 : no3 (rd L k)) : NInv p L (k + 1) := by
  refine ⟨h.len, h.ok, by have := h.k0; omega, by omega, fun j hj => ?_⟩
  by_cases e : j = k
  · rw [e]; exact h3
  · exact h.done j ⟨hj.1, by omega⟩
theorem set_d (L : List Ins) {k : Int} (h0 : 0 ≤ k) (h : k < L.length) : List.set (rowsOn L) k.toNat (splice (rowAt (rowsOn L) k.toNat) 2 [.int .i64 2]) = rowsOn (L.set k.toNat { rd L k with d := 2 }) := by
  rw [rowAt_on L k h0 h, ← rowsOn_set]; rfl
theorem set_a (L : List Ins) {k : Int} (h0 : 0 ≤ k) (h : k < L.length) : List.set (rowsOn L) k.toNat (splice (rowAt (rowsOn L) k.toNat) 4 [.int .i64 2]) = rowsOn (L.set k.toNat { rd L k with aN := 2 }) := by
  rw [rowAt_on L k h0 h, ← rowsOn_set]; rfl
theorem set_b (L : List Ins) {k : Int} (h0 : 0 ≤ k) (h : k < L.length) : List.set (rowsOn L) k.toNat (splice (rowAt (rowsOn L) k.toNat) 6 [.int .i64 2]) = rowsOn (L.set k.toNat { rd L k with bN := 2 }) := by
  rw [rowAt_on L k h0 h, ← rowsOn_set]; rfl
theorem has9 (L : List Ins) {k : Int} (h0 : 0 ≤ k) (h : k < L.length) {m : Nat} (hm : m ≤ 9) : k.toNat < L.length ∧ (rowAt (rowsOn L) k.toNat).length = 9 ∧ m ≤ 9 :=
  ⟨by omega, by rw [rowAt_on L k h0 h]; rfl, hm⟩
theorem l_na3 (p : Prg) (l : List Int) (a b : Int) (L : List Ins) (n : Nat) (N k : Int) (h0 : 0 ≤ k ∧ k ≤ 1000000) (cont : (a_lNarrow.at_ 0 (F_na p l a b (rowsOn L) n N (k + 1))).holds s_lNarrow.cx a_lNarrow.rs (fun r => r.le (rb true))) : (a_lNarrow.at_ 3 (F_na p l a b (rowsOn L) n N k)).holds s_lNarrow.cx a_lNarrow.rs (fun r => r.le (rb true)) := by
  refine at_of_round s_lNarrow_sound (m := 400) ?_
  rw [t_na3]
  try simp only [asRows_sl, asInt_int, asBool_bool, asStr_str, listOf_rowsOn, List.drop_zero, Prg.eta, Sta.eta, rowsOn_length, getD_drop, Nat.reduceAdd, rd_int, rd_PMem_name, rd_PMem_secret, rd_PMem_n, rd_PLabel_name, rd_PLabel_at_, rd_Ins_kind, rd_Ins_op, rd_Ins_d, rd_Ins_aR, rd_Ins_aN, rd_Ins_bR, rd_Ins_bN, rd_Ins_name, rd_Ins_target, rd_Ent_pc, rd_Ent_val, rd_Ent_addr, rd_Ent_fro, rd_Ent_next, rd_Ent_done, rd_Ent_known, rd_Ent_fault, rd_Place_reg, rd_Place_n, rd_Place_secret, rd_Obs_kind, rd_Obs_at_, rd_Dir_kind, rd_Dir_n, Prg.of_cells, Sta.of_cells]
  rw [wrap_small (k + 1) (by omega) (by omega)]
  exact cont
theorem l_na2 (p : Prg) (l : List Int) (a b : Int) (L : List Ins) (n : Nat) (N k : Int) (hP : NInv p L k) (hk : k < L.length) (hl : L.length ≤ 1000000) (hd : (rd L k).d ≠ 3) (ha : ¬((rd L k).aR = true ∧ (rd L k).aN = 3)) (cont : ∀ M : List Ins, NInv p M (k + 1) → (a_lNarrow.at_ 0 (F_na p l a b (rowsOn M) n N (k + 1))).holds s_lNarrow.cx a_lNarrow.rs (fun r => r.le (rb true))) : (a_lNarrow.at_ 2 (F_nb p l a b (rowsOn L) n N k)).holds s_lNarrow.cx a_lNarrow.rs (fun r => r.le (rb true)) := by
  refine at_of_round s_lNarrow_sound (m := 400) ?_
  rw [t_na2]
  try simp only [asRows_sl, asInt_int, asBool_bool, asStr_str, listOf_rowsOn, List.drop_zero, Prg.eta, Sta.eta, rowsOn_length, getD_drop, Nat.reduceAdd, rd_int, rd_PMem_name, rd_PMem_secret, rd_PMem_n, rd_PLabel_name, rd_PLabel_at_, rd_Ins_kind, rd_Ins_op, rd_Ins_d, rd_Ins_aR, rd_Ins_aN, rd_Ins_bR, rd_Ins_bN, rd_Ins_name, rd_Ins_target, rd_Ent_pc, rd_Ent_val, rd_Ent_addr, rd_Ent_fro, rd_Ent_next, rd_Ent_done, rd_Ent_known, rd_Ent_fault, rd_Place_reg, rd_Place_n, rd_Place_secret, rd_Obs_kind, rd_Obs_at_, rd_Dir_kind, rd_Dir_n, Prg.of_cells, Sta.of_cells]
  have h0 := hP.k0
  have hi := hP.ok _ (rd_mem L k h0 hk)
  refine ⟨aload_okD L k 5 rfl (fun _ => rfl) h0 hk, br_holds (fun h5 => ?_) (fun h5 => ?_)⟩
  · refine ⟨aload_okD L k 6 rfl (fun _ => rfl) h0 hk, br_beq (fun h6 => ?_) (fun h6 => ?_)⟩
    · refine ⟨has9 L h0 hk (by decide), ?_⟩
      rw [set_b L h0 hk]
      obtain ⟨h7, h8⟩ := hP.set hk (x := { rd L k with bN := 2 }) ⟨hi.d, hi.aN, by show (0 : Int) ≤ 2 ∧ (2 : Int) < 4; decide⟩
      refine l_na3 p l a b _ n N k (by omega) (cont _ (h7.next (by rw [List.length_set]; exact hk) ?_))
      rw [h8]
      exact ⟨hd, ha, by simp⟩
    · exact l_na3 p l a b _ n N k (by omega) (cont _ (hP.next hk ⟨hd, ha, fun h => h6 h.2⟩))
  · exact l_na3 p l a b _ n N k (by omega) (cont _ (hP.next hk ⟨hd, ha, fun h => by simp_all⟩))
theorem l_na1 (p : Prg) (l : List Int) (a b : Int) (L : List Ins) (n : Nat) (N k : Int) (hP : NInv p L k) (hk : k < L.length) (hl : L.length ≤ 1000000) (hd : (rd L k).d ≠ 3) (cont : ∀ M : List Ins, NInv p M (k + 1) → (a_lNarrow.at_ 0 (F_na p l a b (rowsOn M) n N (k + 1))).holds s_lNarrow.cx a_lNarrow.rs (fun r => r.le (rb true))) : (a_lNarrow.at_ 1 (F_nb p l a b (rowsOn L) n N k)).holds s_lNarrow.cx a_lNarrow.rs (fun r => r.le (rb true)) := by
  refine at_of_round s_lNarrow_sound (m := 400) ?_
  rw [t_na1]
  try simp only [asRows_sl, asInt_int, asBool_bool, asStr_str, listOf_rowsOn, List.drop_zero, Prg.eta, Sta.eta, rowsOn_length, getD_drop, Nat.reduceAdd, rd_int, rd_PMem_name, rd_PMem_secret, rd_PMem_n, rd_PLabel_name, rd_PLabel_at_, rd_Ins_kind, rd_Ins_op, rd_Ins_d, rd_Ins_aR, rd_Ins_aN, rd_Ins_bR, rd_Ins_bN, rd_Ins_name, rd_Ins_target, rd_Ent_pc, rd_Ent_val, rd_Ent_addr, rd_Ent_fro, rd_Ent_next, rd_Ent_done, rd_Ent_known, rd_Ent_fault, rd_Place_reg, rd_Place_n, rd_Place_secret, rd_Obs_kind, rd_Obs_at_, rd_Dir_kind, rd_Dir_n, Prg.of_cells, Sta.of_cells]
  have h0 := hP.k0
  have hi := hP.ok _ (rd_mem L k h0 hk)
  refine ⟨aload_okD L k 3 rfl (fun _ => rfl) h0 hk, br_holds (fun h5 => ?_) (fun h5 => ?_)⟩
  · refine ⟨aload_okD L k 4 rfl (fun _ => rfl) h0 hk, br_beq (fun h6 => ?_) (fun h6 => ?_)⟩
    · refine ⟨has9 L h0 hk (by decide), ?_⟩
      rw [set_a L h0 hk]
      obtain ⟨h7, h8⟩ := hP.set hk (x := { rd L k with aN := 2 }) ⟨hi.d, by show (0 : Int) ≤ 2 ∧ (2 : Int) < 4; decide, hi.bN⟩
      exact l_na2 p l a b _ n N k h7 (by rw [List.length_set]; exact hk) (by rw [List.length_set]; exact hl) (by rw [h8]; exact hd) (by rw [h8]; simp) cont
    · exact l_na2 p l a b _ n N k hP hk hl hd (fun h => h6 h.2) cont
  · exact l_na2 p l a b _ n N k hP hk hl hd (fun h => by simp_all) cont
theorem no3_all {p : Prg} {L : List Ins} {k : Int} (h : NInv p L k) (hk : (L.length : Int) ≤ k) : ∀ i ∈ L, no3 i := by
  intro i hi
  obtain ⟨j, hj, rfl⟩ := List.getElem_of_mem hi
  have := h.done (j : Int) ⟨by omega, by omega⟩
  rwa [show rd L (j : Int) = L[j] from rd_lt L j hj] at this
theorem ofL (p : Prg) (L : List Ins) : Prg.of [.int .i64 p.w, .int .i64 p.window, .int .i64 p.fuel, .int .i64 p.r0, .int .i64 p.r1, .int .i64 p.r2, .int .i64 p.r3, .sl (rowsOn p.mems), .sl (rowsOn p.labels), .sl (rowsOn L)] = { p with ins := L } := by simp [Prg.of]
theorem of3 (s : Sta) (x : Int) : Sta.of [.int .i64 s.r0, .int .i64 s.r1, .int .i64 s.r2, .int .i64 x, .sl (rowsOn s.mem), .sl (rowsOn s.stack), .int .i64 s.pc] = s.with3 x := by simp [Sta.of, Sta.with3]
theorem l_na0 (p : Prg) (l : List Int) (a b : Int) (N : Int) (n : Nat) (hp : PrgOk p) (hf : p.fuel ≤ 1000000) (hN : N = p.ins.length) (hn : n = p.ins.length) : ∀ i : Int × List Ins, (fun (i : Int × List Ins) => NInv p i.2 i.1) i → (a_lNarrow.at_ 0 ((fun (i : Int × List Ins) => F_na p l a b (rowsOn i.2) n N i.1) i)).holds s_lNarrow.cx a_lNarrow.rs (fun r => r.le (rb true)) := by
  refine loop_rule (a := a_lNarrow) (j := 0) (m := 400) s_lNarrow_sound (fun (i : Int × List Ins) => F_na p l a b (rowsOn i.2) n N i.1) (fun (i : Int × List Ins) => NInv p i.2 i.1) (fun (i : Int × List Ins) => (N - i.1).toNat) ?_
  rintro ⟨k, L⟩ h_inv ih
  try dsimp only at h_inv
  replace ih := fun (v0 : Int) (v1 : List Ins) => ih (v0, v1)
  try dsimp only at ih
  show VC.holds _ _ _ (a_lNarrow.round s_lNarrow 400 0 (F_na p l a b (rowsOn L) n N k))
  rw [t_na0]
  try simp only [asRows_sl, asInt_int, asBool_bool, asStr_str, listOf_rowsOn, List.drop_zero, Prg.eta, Sta.eta, rowsOn_length, getD_drop, Nat.reduceAdd, rd_int, rd_PMem_name, rd_PMem_secret, rd_PMem_n, rd_PLabel_name, rd_PLabel_at_, rd_Ins_kind, rd_Ins_op, rd_Ins_d, rd_Ins_aR, rd_Ins_aN, rd_Ins_bR, rd_Ins_bN, rd_Ins_name, rd_Ins_target, rd_Ent_pc, rd_Ent_val, rd_Ent_addr, rd_Ent_fro, rd_Ent_next, rd_Ent_done, rd_Ent_known, rd_Ent_fault, rd_Place_reg, rd_Place_n, rd_Place_secret, rd_Obs_kind, rd_Obs_at_, rd_Dir_kind, rd_Dir_n, Prg.of_cells, Sta.of_cells]
  have hl := hp.len
  have hlen := h_inv.len
  have h0 := h_inv.k0
  refine br_dec (fun hk => ?_) (fun hk => ?_)
  · have hk' : k < L.length := by omega
    have hi := h_inv.ok _ (rd_mem L k h0 hk')
    refine ⟨by omega, aload_okD L k 2 rfl (fun _ => rfl) h0 hk', br_beq (fun h6 => ?_) (fun h6 => ?_)⟩
    · refine ⟨has9 L h0 hk' (by decide), ?_⟩
      rw [set_d L h0 hk']
      obtain ⟨h7, h8⟩ := h_inv.set hk' (x := { rd L k with d := 2 }) ⟨by show (0 : Int) ≤ 2 ∧ (2 : Int) < 4; decide, hi.aN, hi.bN⟩
      exact l_na1 p l a b _ n N k h7 (by rw [List.length_set]; exact hk') (by rw [List.length_set]; omega) (by rw [h8]; show (2 : Int) ≠ 3; decide) fun M hM => ih _ _ hM (by omega)
    · exact l_na1 p l a b _ n N k h_inv hk' (by omega) h6 fun M hM => ih _ _ hM (by omega)
  · have h3 := no3_all h_inv (by omega)
    have hq : PrgOk { p with ins := L } := ⟨hp.w, hp.mems, by show L.length ≤ 1000000; omega, h_inv.ok⟩
    simp only [ofL]
    refine ⟨PreOk.mk hp.mems rfl, all_holds fun s2 hs2 => ?_⟩
    replace hs2 : s2 = statesS { p with ins := L } l 1 := hs2
    obtain ⟨ha, -, -, -, -, -⟩ := states_ok hq l 1
    rw [← hs2] at ha
    clear hs2
    generalize s2.1 = s at ha ⊢
    have hw : 0 ≤ IntKind.wrap .u64 p.w := by have := hp.w; unfold okW at this; rw [IntKind.wrap_u64]; omega
    refine ⟨hw, hw, ?_⟩
    simp only [of3]
    have hs := ha.small hq
    refine ⟨PreOk.mk ⟨hp.mems, hs, hs, by show L.length ≤ 1000000; omega, hf⟩ rfl, all_holds fun y hy => ?_⟩
    replace hy : y = false := hy.trans (differ_with3 { p with ins := L } s _ _ h3)
    subst hy
    exact br_t rfl ⟨PreOk.mk trivial rfl, ret_le (RR.le_refl _)⟩
theorem c_lNarrow_good : c_lNarrow.fe.Good Try.prog := by
  refine FT.good c_lNarrow ⟨Try.f20, by kernel_rfl, by decide +kernel, by kernel_rfl⟩ (fun ⟨m, l, a, b⟩ => by first | rfl | simp [c_lNarrow, rrRef, rrun, rstep, rins, rnum, rby, rss, rnewI, rnewE, rstab, rplaces, ri, rb, rib, Sta.fresh]) fun ⟨m, l, a, b⟩ hp => ?_
  refine acalls_le s_lNarrow_sound (fn := Try.f20) (a := a_lNarrow) (nargs := 4) (tbl := [(4, [1, 2, 3, 9, 24, 25, 3000576009000900009009]), (1000000016, [1, 2, 3, 9, 11, 24, 25, 3000576009000900009009]), (1000000018, [1, 2, 3, 9, 11, 24, 25, 3000576009000900009009]), (1000000020, [1, 2, 3, 9, 24, 25, 3000576009000900009009])]) (by kernel_rfl) (by kernel_rfl) rfl (m := 400) ?_
  show VC.holds _ _ _ (a_lNarrow.start s_lNarrow 400 [al m, al l, ai a, ai b])
  rw [t_lNarrow]
  try simp only [asRows_sl, asInt_int, asBool_bool, asStr_str, listOf_rowsOn, List.drop_zero, Prg.eta, Sta.eta, rowsOn_length, getD_drop, Nat.reduceAdd, rd_int, rd_PMem_name, rd_PMem_secret, rd_PMem_n, rd_PLabel_name, rd_PLabel_at_, rd_Ins_kind, rd_Ins_op, rd_Ins_d, rd_Ins_aR, rd_Ins_aN, rd_Ins_bR, rd_Ins_bN, rd_Ins_name, rd_Ins_target, rd_Ent_pc, rd_Ent_val, rd_Ent_addr, rd_Ent_fro, rd_Ent_next, rd_Ent_done, rd_Ent_known, rd_Ent_fault, rd_Place_reg, rd_Place_n, rd_Place_secret, rd_Obs_kind, rd_Obs_at_, rd_Dir_kind, rd_Dir_n, Prg.of_cells, Sta.of_cells]
  try simp only [c_lNarrow] at hp
  refine ⟨PreOk.mk trivial rfl, all_holds fun p hp0 => ?_⟩
  have hw : WFM p := by rw [hp0]; exact (makeS_spec _).1
  clear hp0
  have hq := hw.ok
  have hl := hq.len
  refine ⟨⟨rowsOn_all p.ins 9 rfl, rfl, by omega⟩, ?_⟩
  rw [List.nil_append]
  exact l_na0 p l a b _ _ hq (by have := hw.fuel; omega) (by omega) (by omega) (0, p.ins) ⟨rfl, hq.ins, by omega, by omega, fun j hj => by omega⟩
end Go.Proofs.Ytclabjihjopclaa.Ax
end
