/- One by one: what runs come to; states that were begun; awake of layer 8. -/
import Derived.Test.YtclabjihjopclaaF17
import Derived.Test.YtclabjihjopclaaP1
namespace Go.Proofs.Ytclabjihjopclaa.Ax
open Go.RowKit
set_option linter.unusedVariables false
set_option linter.unusedSimpArgs false
section
variable {cx : Cx} {rs : List RVar} {R : RR → Prop} {x y : VC}
theorem br_t {b : Bool} (h : b = true) (hx : x.holds cx rs R) : (VC.br b x y).holds cx rs R := by subst h; exact hx
theorem br_f {b : Bool} (h : b = false) (hy : y.holds cx rs R) : (VC.br b x y).holds cx rs R := by subst h; exact hy
end
theorem awake8 : ACalls Try.prog 59 [] (.c (.d (.bool true))) ∧ Enters Try.prog 59 :=
  axG_sound (n := 60) Z_step_ok extE_sound (by intro g sh h; cases h) 8 (by kernel_rfl)
def c_awake8 : FT Unit := ⟨59, fun _ => [], rd0, fun _ => True, fun _ => rb true, false, fun _ => rfl⟩
theorem c_awake8_good : c_awake8.fe.Good Try.prog := FT.good c_awake8 awake8.2 (fun _ => rfl) fun _ _ => awake8.1
noncomputable def v_run : Prg × Sta × Int → Sta × List Obs × Int × Int := fun x => runS x.1 x.2.2.toNat x.2.1
noncomputable def sh_run : Sta × List Obs × Int × Int → RR := fun x => rrun x
theorem e_run (x : Prg × Sta × Int) : sh_run (v_run x) = c_run.ans x := rfl
noncomputable def v_rRun : Prg × Sta × Int → Sta × List Obs × Int × Int := fun x => runS x.1 x.2.2.toNat x.2.1
noncomputable def sh_rRun : Sta × List Obs × Int × Int → RR := fun x => rrun x
theorem e_rRun (x : Prg × Sta × Int) : sh_rRun (v_rRun x) = c_rRun.ans x := rfl
noncomputable def v_rSame : Sta × Sta → Bool := fun x => decide (x.1 = x.2)
noncomputable def sh_rSame : Bool → RR := fun b => rb b
theorem e_rSame (x : Sta × Sta) : sh_rSame (v_rSame x) = c_rSame.ans x := rfl
noncomputable def v_rSameO : List Obs × List Obs → Bool := fun x => decide (x.1 = x.2)
noncomputable def sh_rSameO : Bool → RR := fun b => rb b
theorem e_rSameO (x : List Obs × List Obs) : sh_rSameO (v_rSameO x) = c_rSameO.ans x := rfl
noncomputable def v_eqO : List Obs × List Obs → Bool := fun x => decide (x.1 = x.2)
noncomputable def sh_eqO : Bool → RR := fun b => rb b
theorem e_eqO (x : List Obs × List Obs) : sh_eqO (v_eqO x) = c_eqO.ans x := rfl
theorem run_len (p : Prg) : ∀ (n : Nat) (s : Sta), (runS p n s).1.mem.length = s.mem.length ∧ (runS p n s).1.stack.length ≤ max s.stack.length 4 ∧ (runS p n s).2.1.length ≤ n ∧ 0 ≤ (runS p n s).2.2.1 ∧ (runS p n s).2.2.1 ≤ n ∧ ((runS p n s).2.2.2 = 0 → (runS p n s).2.2.1 = n)
  | 0, s => by simp [runS]; omega
  | n + 1, s => by
    obtain ⟨h1, h2, h3⟩ := step_len p s
    by_cases h : (stepS p s).2.2 = 0
    · rw [runS_go h]
      obtain ⟨g1, g2, g3, g4, g5, g6⟩ := run_len p n (stepS p s).1
      refine ⟨g1.trans h1, by dsimp only; omega, by simp only [List.length_append]; omega, by dsimp only; omega, by dsimp only; omega, fun he => by have := g6 he; dsimp only; omega⟩
    · rw [runS_stop h]
      exact ⟨h1, h2, by dsimp only; omega, by simp, by dsimp only; omega, fun he => absurd he h⟩
theorem run_ok {p : Prg} (hp : PrgOk p) : ∀ (n : Nat) {s : Sta}, StaOk p s → StaOk p (runS p n s).1
  | 0, s, hs => hs
  | n + 1, s, hs => by
    by_cases h : (stepS p s).2.2 = 0
    · rw [runS_go h]; exact run_ok hp n (step_ok hp hs)
    · rw [runS_stop h]; exact step_ok hp hs
/-- So many steps, and then the others. -/
theorem run_add (p : Prg) (k : Nat) : ∀ (n : Nat) (s : Sta), runS p (n + k) s = if (runS p n s).2.2.2 = 0 then comb (runS p n s).2.1 n (runS p k (runS p n s).1) else runS p n s
  | 0, s => by simp [runS, comb]
  | n + 1, s => by
    rw [show n + 1 + k = (n + k) + 1 by omega]
    by_cases h : (stepS p s).2.2 = 0
    · rw [runS_go h, runS_go h, run_add p k n (stepS p s).1]
      dsimp only
      split
      · simp [comb, List.append_assoc]
        omega
      · rfl
    · rw [runS_stop h, runS_stop h]
      rw [if_neg h]
theorem start_ok {p : Prg} (hw : okW p.w) (hm : Mems p.mems) (l : List Int) (hl : l.length = (placesS p).length) : StaOk p (startS p l).1 := by
  obtain ⟨s, h0, h1, h2, h3, h4, h5⟩ := start_hold p hm l hl
  have hpos := (pow_small hw).1
  have key : ∀ x ∈ placesS p, 0 ≤ holdP s x ∧ holdP s x < 2 ^ p.w.toNat := by
    intro x hx
    obtain ⟨i, hi, rfl⟩ := List.getElem_of_mem hx
    rw [h4 i hi]
    exact maskS_ok hw _
  rw [h0]
  refine ⟨fun r hr => ?_, fun v hv => ?_, h1, by rw [h2]; simp⟩
  · by_cases e : p.reg r = 0
    · rw [h5 r hr e]; exact ⟨Int.le_refl _, hpos⟩
    · exact key ⟨true, r, decide (p.reg r = 2)⟩ ((mem_places p hm _).2 (.inl ⟨rfl, hr.1, hr.2, e, rfl⟩))
  · obtain ⟨i, hi, rfl⟩ := List.getElem_of_mem hv
    have h1' : (s.mem.length : Int) = cellsS p.mems := h1
    have := key ⟨false, i, secM p.mems i⟩ ((mem_places p hm _).2 (.inr ⟨rfl, by dsimp only; omega, by dsimp only at hi ⊢; omega, rfl⟩))
    unfold holdP at this
    rw [if_neg (by simp)] at this
    dsimp only at this hi ⊢
    rwa [rd_lt _ _ hi] at this
theorem WFM.ok {p : Prg} (h : WFM p) : PrgOk p := by
  have hr := h.regs.hw
  refine ⟨⟨by omega, by omega⟩, h.toMems, by have := h.len; omega, fun i hi => ?_⟩
  have := h.ins i hi
  exact ⟨this.d, this.aN, this.bN⟩
theorem states_ok {p : Prg} (hp : PrgOk p) (l : List Int) (how : Int) : StaOk p (statesS p l how).1 ∧ StaOk p (statesS p l how).2 ∧ (statesS p l how).1.pc = 0 ∧ (statesS p l how).2.pc = 0 ∧ (statesS p l how).1.stack = [] ∧ (statesS p l how).2.stack = [] := by
  have h1 := told_len (placesS p).length (padF l) (placesS p).length
  have h2 := told_len (placesS p).length (twinF how (placesS p) l) (placesS p).length
  obtain ⟨s, a0, a1, a2, a3, a4, a5⟩ := start_hold p hp.mems _ h1
  obtain ⟨t, b0, b1, b2, b3, b4, b5⟩ := start_hold p hp.mems _ h2
  have e1 : (statesS p l how).1 = s := congrArg Prod.fst a0
  have e2 : (statesS p l how).2 = t := congrArg Prod.fst b0
  have g1 := start_ok hp.w hp.mems _ h1
  have g2 := start_ok hp.w hp.mems _ h2
  rw [a0] at g1
  rw [b0] at g2
  rw [e1, e2]
  exact ⟨g1, g2, a3, b3, a2, b2⟩
end Go.Proofs.Ytclabjihjopclaa.Ax
