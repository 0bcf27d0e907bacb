/- Several texts in one, in their order. -/
import Derived.Test.YtclabjihjopclaaPart2
import Derived.Test.YtclabjihjopclaaAxBk
section
/- Ranges over slices.Backward; awake of layers 10, 11, 19, 23. -/
namespace Go.Proofs.Ytclabjihjopclaa.Ax
open Go.RowKit
set_option linter.unusedVariables false
set_option linter.unusedSimpArgs false
theorem backI_ok : BackOK Try.prog 141 none :=
  backward_ok (fn := Try.f141) (t := 22) (u := 3) (by kernel_rfl) rfl rfl rfl (by kernel_rfl) (by kernel_rfl) (by kernel_rfl) (by kernel_rfl) ⟨rfl, rfl, rfl⟩ ⟨rfl, rfl, rfl⟩ ⟨rfl, rfl, rfl⟩ ⟨rfl, rfl, rfl⟩ ⟨rfl, rfl, rfl⟩ ⟨rfl, rfl, rfl⟩ ⟨rfl, rfl, rfl⟩ ⟨rfl, rfl, rfl⟩ ⟨rfl, rfl, rfl⟩ ⟨rfl, rfl, rfl⟩ ⟨rfl, rfl, rfl⟩ ⟨rfl, rfl, rfl⟩ ⟨rfl, rfl, rfl⟩ ⟨rfl, rfl, rfl⟩ ⟨rfl, rfl, rfl⟩ ⟨rfl, rfl, rfl⟩ ⟨rfl, rfl, rfl⟩
theorem backE_ok : BackOK Try.prog 123 (some 8) :=
  backward_ok (fn := Try.f123) (t := 34) (u := 43) (by kernel_rfl) rfl rfl rfl (by kernel_rfl) (by kernel_rfl) (by kernel_rfl) (by kernel_rfl) ⟨rfl, rfl, rfl⟩ ⟨rfl, rfl, rfl⟩ ⟨rfl, rfl, rfl⟩ ⟨rfl, rfl, rfl⟩ ⟨rfl, rfl, rfl⟩ ⟨rfl, rfl, rfl⟩ ⟨rfl, rfl, rfl⟩ ⟨rfl, rfl, rfl⟩ ⟨rfl, rfl, rfl⟩ ⟨rfl, rfl, rfl⟩ ⟨rfl, rfl, rfl⟩ ⟨rfl, rfl, rfl⟩ ⟨rfl, rfl, rfl⟩ ⟨rfl, rfl, rfl⟩ ⟨rfl, rfl, rfl⟩ ⟨rfl, rfl, rfl⟩ ⟨rfl, rfl, rfl⟩
def kdE : List Kd := [.int .i64, .int .i64, .int .i64, .int .i64, .int .i64, .bool, .bool, .bool]
def bkAll (g : FuncId) : Option (Option Nat × List Kd) := if g = 141 then some (none, [.int .i64]) else if g = 123 then some (some 8, kdE) else none
theorem bkAll_ok : BksOK Try.prog bkAll := by
  intro g sh h
  unfold bkAll at h
  split at h
  · rename_i hg; subst hg; cases h
    exact ⟨backI_ok, ⟨Try.f141, by kernel_rfl, by decide +kernel, by kernel_rfl⟩⟩
  · split at h
    · rename_i hg; subst hg; cases h
      exact ⟨backE_ok, ⟨Try.f123, by kernel_rfl, by decide +kernel, by kernel_rfl⟩⟩
    · cases h
/-- seqm.put, seqm.touch and pair.fill are run in their callers' places. -/
noncomputable def Z_all : Zo := mkZ Try.prog 0 [(101, ⟨100000, fun _ => none, fun _ => none⟩), (105, Z_t), (95, ⟨400000, fun _ => none, fun _ => none⟩)] bkAll
theorem Z_all_ok : ZOK Try.prog 2 Z_all := zok_mk fun p hp => by
  simp only [List.mem_cons, List.not_mem_nil, or_false] at hp
  rcases hp with rfl | rfl | rfl
  · exact zok_none _ _ _
  · exact zok_mk fun p hp => by
      simp only [List.mem_cons, List.not_mem_nil, or_false] at hp
      subst hp
      exact zok_none _ _ _
  · exact zok_none _ _ _
theorem awake10 : ACalls Try.prog 30 [] (.c (.d (.bool true))) ∧ Enters Try.prog 30 :=
  axG_sound (n := 60) Z_all_ok extE_sound bkAll_ok 8 (by kernel_rfl)
theorem awake11 : ACalls Try.prog 27 [] (.c (.d (.bool true))) ∧ Enters Try.prog 27 :=
  axG_sound (n := 60) Z_all_ok extE_sound bkAll_ok 8 (by kernel_rfl)
theorem awake19 : ACalls Try.prog 46 [] (.c (.d (.bool true))) ∧ Enters Try.prog 46 :=
  axG_sound (n := 60) Z_all_ok extE_sound bkAll_ok 8 (by kernel_rfl)
theorem awake23 : ACalls Try.prog 65 [] (.c (.d (.bool true))) ∧ Enters Try.prog 65 :=
  axG_sound (n := 60) Z_all_ok extE_sound bkAll_ok 13 (by kernel_rfl)
def c_awake10 : FT Unit := ⟨30, fun _ => [], rd0, fun _ => True, fun _ => rb true, false, fun _ => rfl⟩
theorem c_awake10_good : c_awake10.fe.Good Try.prog := FT.good c_awake10 awake10.2 (fun _ => rfl) fun _ _ => awake10.1
def c_awake11 : FT Unit := ⟨27, fun _ => [], rd0, fun _ => True, fun _ => rb true, false, fun _ => rfl⟩
theorem c_awake11_good : c_awake11.fe.Good Try.prog := FT.good c_awake11 awake11.2 (fun _ => rfl) fun _ _ => awake11.1
def c_awake19 : FT Unit := ⟨46, fun _ => [], rd0, fun _ => True, fun _ => rb true, false, fun _ => rfl⟩
theorem c_awake19_good : c_awake19.fe.Good Try.prog := FT.good c_awake19 awake19.2 (fun _ => rfl) fun _ _ => awake19.1
def c_awake23 : FT Unit := ⟨65, fun _ => [], rd0, fun _ => True, fun _ => rb true, false, fun _ => rfl⟩
theorem c_awake23_good : c_awake23.fe.Good Try.prog := FT.good c_awake23 awake23.2 (fun _ => rfl) fun _ _ => awake23.1
end Go.Proofs.Ytclabjihjopclaa.Ax
end

section
/- What leaks without any guess: clas.Differ; how two runs go side by side. -/
namespace Go.Proofs.Ytclabjihjopclaa.Ax
open Go.RowKit
set_option linter.unusedVariables false
set_option linter.unusedSimpArgs false
def trS (p : Prg) (n : Nat) (s : Sta) : List Obs × Int × Int := ((runS p n s).2.1, (runS p n s).2.2.1, (runS p n s).2.2.2)
def differS (p : Prg) (a b : Sta) : Bool := !decide (trS p p.fuel.toNat a = trS p p.fuel.toNat b)
def c_differ : FT (Prg × Sta × Sta) := ⟨64, fun x => [ap x.1, as_ x.2.1, as_ x.2.2], rdPSS, fun x => Mems x.1.mems ∧ SmallS x.2.1 ∧ SmallS x.2.2 ∧ x.1.ins.length ≤ 1000000 ∧ x.1.fuel ≤ 1000000, fun x => rb (differS x.1 x.2.1 x.2.2), false, fun s => by simp [as_, ap, rdPSS]⟩
noncomputable def a_differ : FnA := (fnA Try.prog Try.f64 3 []).getD ⟨0, .skip, [], []⟩
noncomputable def s_differ : Sp := spT [c_run.gfe v_run sh_run e_run, c_eqO.gfe v_eqO sh_eqO e_eqO]
theorem s_differ_sound : s_differ.sound Try.prog := spT_sound fun e he => by
  simp only [List.mem_cons, List.not_mem_nil, or_false] at he
  rcases he with rfl | rfl
  · exact FT.gfe_good c_run_good
  · exact FT.gfe_good c_eqO_good
set_option maxRecDepth 100000 in
theorem t_differ (p : Prg) (s t : Sta) : a_differ.start s_differ 400 [ap p, as_ s, as_ t] =
(VC.need (PreOk c_run (Prg.of (Prg.cells p), Sta.of (Sta.cells s), p.fuel) [A.agg (Prg.cells p), A.agg (Sta.cells s), A.c (D.int IntKind.i64 p.fuel)])
(VC.all (v_run (Prg.of (Prg.cells p), Sta.of (Sta.cells s), p.fuel)) fun (y3 : Sta × List Obs × Int × Int) =>
(VC.need (PreOk c_run (Prg.of (Prg.cells p), Sta.of (Sta.cells t), p.fuel) [A.agg (Prg.cells p), A.agg (Sta.cells t), A.c (D.int IntKind.i64 p.fuel)])
(VC.all (v_run (Prg.of (Prg.cells p), Sta.of (Sta.cells t), p.fuel)) fun (y4 : Sta × List Obs × Int × Int) =>
(VC.br (y3.snd.snd.fst != y4.snd.snd.fst)
 (VC.ret (some (RR.c (Rc.d (D.bool true)))))
 (VC.br (y3.snd.snd.snd != y4.snd.snd.snd)
  (VC.ret (some (RR.c (Rc.d (D.bool true)))))
  (VC.need (PreOk c_eqO (y3.snd.fst, y4.snd.fst) [A.c (D.sl (rowsOn y3.snd.fst)), A.c (D.sl (rowsOn y4.snd.fst))])
  (VC.all (v_eqO (listOf Obs (rowsOn y3.snd.fst), listOf Obs (rowsOn y4.snd.fst))) fun (y5 : Bool) =>
  (VC.ret (some (RR.c (Rc.d (D.bool !y5))))))))))))) := by kernel_rfl
theorem c_differ_good : c_differ.fe.Good Try.prog := by
  refine FT.good c_differ ⟨Try.f64, by kernel_rfl, by decide +kernel, by kernel_rfl⟩ (fun ⟨p, s, t⟩ => by first | rfl | simp [c_differ, rrRef, rrun, rstep, rins, rnum, rby, rss, rnewI, rnewE, rstab, rplaces, ri, rb, rib, Sta.fresh]) fun ⟨p, s, t⟩ hp => ?_
  refine acalls_le s_differ_sound (fn := Try.f64) (a := a_differ) (nargs := 3) (tbl := []) (by kernel_rfl) (by kernel_rfl) rfl (m := 400) ?_
  show VC.holds _ _ _ (a_differ.start s_differ 400 [ap p, as_ s, as_ t])
  rw [t_differ]
  try simp only [asRows_sl, asInt_int, asBool_bool, asStr_str, listOf_rowsOn, List.drop_zero, Prg.eta, Sta.eta, rowsOn_length, getD_drop, Nat.reduceAdd, rd_int, rd_PMem_name, rd_PMem_secret, rd_PMem_n, rd_PLabel_name, rd_PLabel_at_, rd_Ins_kind, rd_Ins_op, rd_Ins_d, rd_Ins_aR, rd_Ins_aN, rd_Ins_bR, rd_Ins_bN, rd_Ins_name, rd_Ins_target, rd_Ent_pc, rd_Ent_val, rd_Ent_addr, rd_Ent_fro, rd_Ent_next, rd_Ent_done, rd_Ent_known, rd_Ent_fault, rd_Place_reg, rd_Place_n, rd_Place_secret, rd_Obs_kind, rd_Obs_at_, rd_Dir_kind, rd_Dir_n, Prg.of_cells, Sta.of_cells]
  try simp only [c_differ] at hp
  obtain ⟨hm, hs, ht, hl, hf⟩ := hp
  refine ⟨PreOk.mk ⟨hm, hs, hl, hf⟩ rfl, all_holds fun x hx => ⟨PreOk.mk ⟨hm, ht, hl, hf⟩ rfl, all_holds fun y hy => ?_⟩⟩
  replace hx : x = runS p p.fuel.toNat s := hx
  replace hy : y = runS p p.fuel.toNat t := hy
  have e : c_differ.ans (p, s, t) = rb (!decide ((x.2.1, x.2.2.1, x.2.2.2) = (y.2.1, y.2.2.1, y.2.2.2))) := by rw [hx, hy]; rfl
  have hol := (run_len p p.fuel.toNat s).2.2.1
  rw [← hx] at hol
  rw [e]
  clear e hx hy
  repeat' first
    | refine br_not ?_
    | refine br_dec (fun _ => ?_) (fun _ => ?_)
    | refine br_beq (fun _ => ?_) (fun _ => ?_)
    | refine br_bne (fun _ => ?_) (fun _ => ?_)
    | refine br_holds (fun _ => ?_) (fun _ => ?_)
    | refine ⟨PreOk.mk ?_ rfl, ?_⟩
    | refine ⟨idx_ok _ _ _ rfl (by omega) (by omega), ?_⟩
    | refine ⟨okSh_ok _ _ _ (fun _ => rfl) (by omega) (by omega), ?_⟩
    | refine ⟨okSh_okD _ _ _ _ (fun _ => rfl) (by omega) (by omega), ?_⟩
    | refine ⟨aload_ok _ _ rfl (fun _ => rfl) (by omega) (by omega), ?_⟩
    | refine ⟨aload_okD _ _ _ rfl (fun _ => rfl) (by omega) (by omega), ?_⟩
    | refine ⟨astore_ok (by assumption) rfl (by omega) (by omega) (by decide), ?_⟩
    | refine ⟨app_ok (by assumption) rfl rfl (by simp only [List.length_cons, List.length_nil]; omega), ?_⟩
    | refine need_holds ?_ fun _ => ?_
    | refine all_holds fun y hy => ?_
    | refine ret_le ?_
  all_goals try (dsimp only [c_eqO]; omega)
  all_goals refine rb_le ?_
  all_goals subst_vars
  all_goals simp_all [v_eqO]
noncomputable def v_differ : Prg × Sta × Sta → Bool := fun x => differS x.1 x.2.1 x.2.2
noncomputable def sh_differ : Bool → RR := fun b => rb b
theorem e_differ (x : Prg × Sta × Sta) : sh_differ (v_differ x) = c_differ.ans x := rfl
/-- Two states that go side by side. -/
def Lk (a b : Sta) : Prop := a.pc = b.pc ∧ a.stack = b.stack
/-- Where neither ends, both show as much; and where they show the same they go on side by side. -/
theorem step_lock (p : Prg) {a b : Sta} (h : Lk a b) (ha : (stepS p a).2.2 = 0) (hb : (stepS p b).2.2 = 0) : (stepS p a).2.1.length = (stepS p b).2.1.length ∧ ((stepS p a).2.1 = (stepS p b).2.1 → Lk (stepS p a).1 (stepS p b).1) := by
  obtain ⟨h1, h2⟩ := h
  have g1 := fun n => (setReg_mem a (atS p.ins a.pc).d n).2
  have g2 := fun n => (setReg_mem b (atS p.ins a.pc).d n).2
  rw [stepS_B] at ha
  rw [stepS_B] at hb
  rw [stepS_B, stepS_B p b]
  rw [← h1] at hb ⊢
  generalize maskS p.w (valS p.w a (atS p.ins a.pc).aR (atS p.ins a.pc).aN + valS p.w a (atS p.ins a.pc).bR (atS p.ins a.pc).bN) = A at ha ⊢
  generalize maskS p.w (valS p.w b (atS p.ins a.pc).aR (atS p.ins a.pc).aN + valS p.w b (atS p.ins a.pc).bR (atS p.ins a.pc).bN) = B at hb ⊢
  generalize valS p.w a (atS p.ins a.pc).aR (atS p.ins a.pc).aN = a1 at ha ⊢
  generalize valS p.w a (atS p.ins a.pc).bR (atS p.ins a.pc).bN = a2 at ha ⊢
  generalize valS p.w b (atS p.ins a.pc).aR (atS p.ins a.pc).aN = b1 at hb ⊢
  generalize valS p.w b (atS p.ins a.pc).bR (atS p.ins a.pc).bN = b2 at hb ⊢
  generalize atS p.ins a.pc = i at *
  unfold stepB at *
  by_cases k1 : i.kind = 1 ∨ i.kind = 4
  · simp only [if_pos k1]
    exact ⟨by first | rfl | exact trivial, fun _ => ⟨by dsimp only; rw [h1], by dsimp only; rw [(g1 _).1, (g2 _).1, h2]⟩⟩
  simp only [if_neg k1] at *
  by_cases k2 : i.kind = 2
  · simp only [if_pos k2] at *
    split at ha
    · split at hb
      · rename_i c1 c2
        rw [if_pos c1, if_pos c2]
        exact ⟨by first | rfl | exact trivial, fun _ => ⟨by dsimp only; rw [h1], by dsimp only; rw [(g1 _).1, (g2 _).1, h2]⟩⟩
      · cases hb
    · cases ha
  simp only [if_neg k2] at *
  by_cases k3 : i.kind = 3
  · simp only [if_pos k3] at *
    split at ha
    · split at hb
      · rename_i c1 c2
        rw [if_pos c1, if_pos c2]
        exact ⟨by first | rfl | exact trivial, fun _ => ⟨by dsimp only; rw [h1], h2⟩⟩
      · cases hb
    · cases ha
  simp only [if_neg k3] at *
  by_cases k4 : i.kind = 5 ∨ i.kind = 7
  · simp only [if_pos k4] at *
    exact ⟨by first | rfl | exact trivial, fun h => ⟨by simpa using h, h2⟩⟩
  simp only [if_neg k4] at *
  by_cases k5 : i.kind = 6
  · simp only [if_pos k5] at *
    exact ⟨by first | rfl | exact trivial, fun h => ⟨rfl, h2⟩⟩
  simp only [if_neg k5] at *
  by_cases k6 : i.kind = 8
  · simp only [if_pos k6] at *
    split at ha
    · cases ha
    · split at hb
      · cases hb
      · rename_i c1 c2
        rw [if_neg c1, if_neg c2]
        exact ⟨by first | rfl | exact trivial, fun h => ⟨rfl, by dsimp only; rw [h1, h2]⟩⟩
  simp only [if_neg k6] at *
  by_cases k7 : i.kind = 9
  · simp only [if_pos k7] at *
    split at ha
    · cases ha
    · split at hb
      · cases hb
      · rename_i c1 c2
        rw [if_neg c1, if_neg c2]
        exact ⟨by first | rfl | exact trivial, fun h => ⟨by dsimp only; rw [h2], by dsimp only; rw [h2]⟩⟩
  simp only [if_neg k7] at *
  by_cases k8 : i.kind = 10
  · simp only [if_pos k8] at *
    exact ⟨by first | rfl | exact trivial, fun h => ⟨by dsimp only; rw [h1], h2⟩⟩
  simp only [if_neg k8] at *
  split at ha <;> cases ha
theorem run_zero {p : Prg} {n : Nat} {s : Sta} (h : (runS p n s).2.2.1 = 0) : n = 0 := by
  cases n with
  | zero => rfl
  | succ n =>
    exfalso
    by_cases h0 : (stepS p s).2.2 = 0
    · rw [runS_go h0] at h
      have := (run_len p n (stepS p s).1).2.2.2.1
      dsimp only at h
      omega
    · rw [runS_stop h0] at h
      cases h
/-- What is the same with more fuel was the same with less. -/
theorem trace_less (p : Prg) (m : Nat) : ∀ (n : Nat) {a b : Sta}, Lk a b → trS p (n + m) a = trS p (n + m) b → trS p n a = trS p n b
  | 0, a, b, _, _ => rfl
  | n + 1, a, b, hl, h => by
    rw [show n + 1 + m = n + m + 1 by omega] at h
    by_cases ha : (stepS p a).2.2 = 0
    · by_cases hb : (stepS p b).2.2 = 0
      · obtain ⟨h1, h2⟩ := step_lock p hl ha hb
        unfold trS at h ⊢
        rw [runS_go ha, runS_go hb] at h
        rw [runS_go ha, runS_go hb]
        simp only [Prod.mk.injEq] at h ⊢
        obtain ⟨g1, g2, g3⟩ := h
        obtain ⟨g4, g5⟩ := List.append_inj g1 h1
        have ih := trace_less p m n (h2 g4) (by unfold trS; rw [g5, g3, show (runS p (n + m) (stepS p a).1).2.2.1 = (runS p (n + m) (stepS p b).1).2.2.1 by omega])
        unfold trS at ih
        simp only [Prod.mk.injEq] at ih
        obtain ⟨i1, i2, i3⟩ := ih
        exact ⟨by rw [g4, i1], by rw [i2], i3⟩
      · exfalso
        unfold trS at h
        rw [runS_go ha, runS_stop hb] at h
        simp only [Prod.mk.injEq] at h
        have h0 := run_zero (p := p) (n := n + m) (s := (stepS p a).1) (by omega)
        have hn : n = 0 ∧ m = 0 := by omega
        obtain ⟨rfl, rfl⟩ := hn
        exact hb (by rw [← h.2.2]; rfl)
    · by_cases hb : (stepS p b).2.2 = 0
      · exfalso
        unfold trS at h
        rw [runS_go hb, runS_stop ha] at h
        simp only [Prod.mk.injEq] at h
        have h0 := run_zero (p := p) (n := n + m) (s := (stepS p b).1) (by omega)
        have hn : n = 0 ∧ m = 0 := by omega
        obtain ⟨rfl, rfl⟩ := hn
        exact ha (by rw [h.2.2]; rfl)
      · unfold trS at h ⊢
        rw [runS_stop ha, runS_stop hb] at h ⊢
        exact h
theorem run_fuel (p : Prg) (f : Int) : ∀ (n : Nat) (s : Sta), runS { p with fuel := f } n s = runS p n s
  | 0, _ => rfl
  | n + 1, s => by
    have e : stepS { p with fuel := f } s = stepS p s := rfl
    by_cases h : (stepS p s).2.2 = 0
    · rw [runS_go h, runS_go (p := { p with fuel := f }) (by rw [e]; exact h), e, run_fuel p f n]
    · rw [runS_stop h, runS_stop (p := { p with fuel := f }) (by rw [e]; exact h), e]
theorem differ_fuel (p : Prg) (f : Int) (a b : Sta) : differS { p with fuel := f } a b = !decide (trS p f.toNat a = trS p f.toNat b) := by
  unfold differS trS
  simp only [run_fuel]
theorem differ_more (p : Prg) {f : Int} (hf : 0 ≤ f) {a b : Sta} (hl : Lk a b) (h : differS { p with fuel := f } a b = true) : differS { p with fuel := f + 5 } a b = true := by
  rw [differ_fuel] at h ⊢
  simp only [Bool.not_eq_true', decide_eq_false_iff_not] at h ⊢
  rw [show (f + 5).toNat = f.toNat + 5 by omega]
  exact fun he => h (trace_less p 5 f.toNat hl he)
end Go.Proofs.Ytclabjihjopclaa.Ax
end
