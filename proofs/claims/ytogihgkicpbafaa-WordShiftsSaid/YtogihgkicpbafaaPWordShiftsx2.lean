-- PRINTED BY print.sh 35421559b90ae4d0a3588c463048766b98c2df88dd9212a6774a882060cdf62d: not written by this session
import Derived.Test.YtogihgkicpbafaaPWordShiftsx0
import Derived.Test.YtogihgkicpbafaaPWordShiftsx1
namespace Go.Proofs.Ytogihgkicpbafaa.PWordShifts
open Go.RowKit Go.Proofs.YtogihgkicpbafaaW.PrintWords Go.Proofs.YtogihgkicpbafaaW.PrintLast Go.Proofs.YtogihgkicpbafaaW.PrintMore
attribute [local go_sem] max2_int min2_int max_two min_two max_three min_three max_four min_four   -- for this text's walks alone
set_option linter.unusedVariables false
set_option linter.unusedSimpArgs false

/-! ### augurylaw1_WordShifts: function 6 -/
def augurylaw1_WordShifts.j0 : Nat → Int → Int → Int → Int → Bool → Option (Bool)
  | 0, _, _, _, _, _ => none
  | k + 1, x0, x1, x2, x3, x76 => if x76 = true then (some false) else ((word_Size.f x0).bind fun t139 => (if (wrap64 ((Go.bits .and .i64 x2 7) + (Go.bits .and .i64 x3 7))) ≥ t139 then ((augurylaw1_awake.f k).bind fun t140 => (some t140)) else ((word_Do.f k x0 6 x1 (Go.bits .and .i64 x2 7)).bind fun bt141 => ((word_Do.f k x0 6 bt141.1 (Go.bits .and .i64 x3 7)).bind fun bt143 => ((word_Do.f k x0 6 x1 (wrap64 ((Go.bits .and .i64 x2 7) + (Go.bits .and .i64 x3 7)))).bind fun bt145 => ((word_Do.f k x0 7 x1 (Go.bits .and .i64 x2 7)).bind fun bt147 => ((word_Do.f k x0 7 bt147.1 (Go.bits .and .i64 x3 7)).bind fun bt149 => ((word_Do.f k x0 7 x1 (wrap64 ((Go.bits .and .i64 x2 7) + (Go.bits .and .i64 x3 7)))).bind fun bt151 => (if bt145.2 = true then (if bt143.1 = bt145.1 then (if bt149.1 = bt151.1 then ((augurylaw1_awake.f k).bind fun t153 => (some t153)) else (some false)) else (some false)) else (some false))))))))))
def augurylaw1_WordShifts.f (k : Nat) (a0 : Int) (a1 : Int) (a2 : Int) (a3 : Int) : Option (Bool) := (word_Do.f k (wrap64 ((Go.bits .and .i64 a0 15) + 1)) 6 a1 1).bind fun bt130 => ((word_Do.f k (wrap64 ((Go.bits .and .i64 a0 15) + 1)) 8 a1 2).bind fun bt132 => ((word_Do.f k (wrap64 ((Go.bits .and .i64 a0 15) + 1)) 1 a1 a1).bind fun bt134 => ((word_Do.f k (wrap64 ((Go.bits .and .i64 a0 15) + 1)) 7 a1 1).bind fun bt136 => (if bt134.1 = bt132.1 then (if (wrap64 ((Go.bits .and .i64 a0 15) + 1)) > 1 then (if bt130.1 = bt132.1 then ((word_Mask.f (wrap64 ((Go.bits .and .i64 a0 15) + 1)) a1).bind fun t138 => (augurylaw1_WordShifts.j0 k (wrap64 ((Go.bits .and .i64 a0 15) + 1)) a1 a2 a3 (bt136.1 != (wrap64 (Int.tdiv t138 2))))) else (augurylaw1_WordShifts.j0 k (wrap64 ((Go.bits .and .i64 a0 15) + 1)) a1 a2 a3 true)) else (augurylaw1_WordShifts.j0 k (wrap64 ((Go.bits .and .i64 a0 15) + 1)) a1 a2 a3 false)) else (augurylaw1_WordShifts.j0 k (wrap64 ((Go.bits .and .i64 a0 15) + 1)) a1 a2 a3 true)))))
theorem augurylaw1_WordShifts.mono_l : ∀ k, (∀ y0 y1 y2 y3 y4, LeO (augurylaw1_WordShifts.j0 k y0 y1 y2 y3 y4) (augurylaw1_WordShifts.j0 (k + 1) y0 y1 y2 y3 y4))
  | 0 => fun _ _ _ _ _ r h => by simp [augurylaw1_WordShifts.j0] at h
  | k + 1 => by
    have ih0 := augurylaw1_WordShifts.mono_l k
    · intro y0 y1 y2 y3 y4
      unfold augurylaw1_WordShifts.j0
      repeat' first
      | (with_reducible exact ih0 _ _ _ _ _)
      | (with_reducible exact augurylaw1_awake.mono _)
      | (with_reducible exact word_Do.mono _ _ _ _ _)
      | (with_reducible exact LeO.refl _)
      | (with_reducible exact LeO.none _)
      | (with_reducible refine LeO.ite ?_ ?_)
      | (with_reducible refine LeO.bind ?_ (fun _ => ?_))
      | exact ih0 _ _ _ _ _
      | exact augurylaw1_awake.mono _
      | exact word_Do.mono _ _ _ _ _
      | exact LeO.none _
      | refine LeO.ite ?_ ?_
      | refine LeO.bind ?_ (fun _ => ?_)
theorem augurylaw1_WordShifts.mono : ∀ a0 a1 a2 a3 k, LeO (augurylaw1_WordShifts.f k a0 a1 a2 a3) (augurylaw1_WordShifts.f (k + 1) a0 a1 a2 a3) := by
  intro a0 a1 a2 a3 k
  have ih0 := augurylaw1_WordShifts.mono_l k
  unfold augurylaw1_WordShifts.f
  repeat' first
      | (with_reducible exact ih0 _ _ _ _ _)
      | (with_reducible exact augurylaw1_awake.mono _)
      | (with_reducible exact word_Do.mono _ _ _ _ _)
      | (with_reducible exact LeO.refl _)
      | (with_reducible exact LeO.none _)
      | (with_reducible refine LeO.ite ?_ ?_)
      | (with_reducible refine LeO.bind ?_ (fun _ => ?_))
      | exact ih0 _ _ _ _ _
      | exact augurylaw1_awake.mono _
      | exact word_Do.mono _ _ _ _ _
      | exact LeO.none _
      | refine LeO.ite ?_ ?_
      | refine LeO.bind ?_ (fun _ => ?_)
set_option maxHeartbeats 8000000 in
set_option maxRecDepth 100000 in
theorem augurylaw1_WordShifts.calls (k : Nat) (a0 : Int) (a1 : Int) (a2 : Int) (a3 : Int) (r : Bool) (w : World) (h : augurylaw1_WordShifts.f k a0 a1 a2 a3 = some r) :
    Calls Try.prog 6 #[.int .i64 a0, .int .i64 a1, .int .i64 a2, .int .i64 a3] w fun e w' => e = .returned (.bool r) ∧ Drawn0 w w' := by
  have H : ((word_Do.f k (wrap64 ((Go.bits .and .i64 a0 15) + 1)) 6 a1 1).bind fun bt130 => ((word_Do.f k (wrap64 ((Go.bits .and .i64 a0 15) + 1)) 8 a1 2).bind fun bt132 => ((word_Do.f k (wrap64 ((Go.bits .and .i64 a0 15) + 1)) 1 a1 a1).bind fun bt134 => ((word_Do.f k (wrap64 ((Go.bits .and .i64 a0 15) + 1)) 7 a1 1).bind fun bt136 => (if bt134.1 = bt132.1 then (if (wrap64 ((Go.bits .and .i64 a0 15) + 1)) > 1 then (if bt130.1 = bt132.1 then ((word_Mask.f (wrap64 ((Go.bits .and .i64 a0 15) + 1)) a1).bind fun t138 => (augurylaw1_WordShifts.j0 k (wrap64 ((Go.bits .and .i64 a0 15) + 1)) a1 a2 a3 (bt136.1 != (wrap64 (Int.tdiv t138 2))))) else (augurylaw1_WordShifts.j0 k (wrap64 ((Go.bits .and .i64 a0 15) + 1)) a1 a2 a3 true)) else (augurylaw1_WordShifts.j0 k (wrap64 ((Go.bits .and .i64 a0 15) + 1)) a1 a2 a3 false)) else (augurylaw1_WordShifts.j0 k (wrap64 ((Go.bits .and .i64 a0 15) + 1)) a1 a2 a3 true)))))) = some r := h
  clear h
  replace H := Option.bind_eq_some_iff.mp H
  obtain ⟨⟨t130, t131⟩, A50, H⟩ := H
  replace H : ((word_Do.f k (wrap64 ((Go.bits .and .i64 a0 15) + 1)) 8 a1 2).bind fun bt132 => ((word_Do.f k (wrap64 ((Go.bits .and .i64 a0 15) + 1)) 1 a1 a1).bind fun bt134 => ((word_Do.f k (wrap64 ((Go.bits .and .i64 a0 15) + 1)) 7 a1 1).bind fun bt136 => (if bt134.1 = bt132.1 then (if (wrap64 ((Go.bits .and .i64 a0 15) + 1)) > 1 then (if t130 = bt132.1 then ((word_Mask.f (wrap64 ((Go.bits .and .i64 a0 15) + 1)) a1).bind fun t138 => (augurylaw1_WordShifts.j0 k (wrap64 ((Go.bits .and .i64 a0 15) + 1)) a1 a2 a3 (bt136.1 != (wrap64 (Int.tdiv t138 2))))) else (augurylaw1_WordShifts.j0 k (wrap64 ((Go.bits .and .i64 a0 15) + 1)) a1 a2 a3 true)) else (augurylaw1_WordShifts.j0 k (wrap64 ((Go.bits .and .i64 a0 15) + 1)) a1 a2 a3 false)) else (augurylaw1_WordShifts.j0 k (wrap64 ((Go.bits .and .i64 a0 15) + 1)) a1 a2 a3 true))))) = some r := H
  have A5 := Aside0.mk A50
  clear A50
  replace H := Option.bind_eq_some_iff.mp H
  obtain ⟨⟨t132, t133⟩, A60, H⟩ := H
  replace H : ((word_Do.f k (wrap64 ((Go.bits .and .i64 a0 15) + 1)) 1 a1 a1).bind fun bt134 => ((word_Do.f k (wrap64 ((Go.bits .and .i64 a0 15) + 1)) 7 a1 1).bind fun bt136 => (if bt134.1 = t132 then (if (wrap64 ((Go.bits .and .i64 a0 15) + 1)) > 1 then (if t130 = t132 then ((word_Mask.f (wrap64 ((Go.bits .and .i64 a0 15) + 1)) a1).bind fun t138 => (augurylaw1_WordShifts.j0 k (wrap64 ((Go.bits .and .i64 a0 15) + 1)) a1 a2 a3 (bt136.1 != (wrap64 (Int.tdiv t138 2))))) else (augurylaw1_WordShifts.j0 k (wrap64 ((Go.bits .and .i64 a0 15) + 1)) a1 a2 a3 true)) else (augurylaw1_WordShifts.j0 k (wrap64 ((Go.bits .and .i64 a0 15) + 1)) a1 a2 a3 false)) else (augurylaw1_WordShifts.j0 k (wrap64 ((Go.bits .and .i64 a0 15) + 1)) a1 a2 a3 true)))) = some r := H
  have A6 := Aside0.mk A60
  clear A60
  replace H := Option.bind_eq_some_iff.mp H
  obtain ⟨⟨t134, t135⟩, A70, H⟩ := H
  replace H : ((word_Do.f k (wrap64 ((Go.bits .and .i64 a0 15) + 1)) 7 a1 1).bind fun bt136 => (if t134 = t132 then (if (wrap64 ((Go.bits .and .i64 a0 15) + 1)) > 1 then (if t130 = t132 then ((word_Mask.f (wrap64 ((Go.bits .and .i64 a0 15) + 1)) a1).bind fun t138 => (augurylaw1_WordShifts.j0 k (wrap64 ((Go.bits .and .i64 a0 15) + 1)) a1 a2 a3 (bt136.1 != (wrap64 (Int.tdiv t138 2))))) else (augurylaw1_WordShifts.j0 k (wrap64 ((Go.bits .and .i64 a0 15) + 1)) a1 a2 a3 true)) else (augurylaw1_WordShifts.j0 k (wrap64 ((Go.bits .and .i64 a0 15) + 1)) a1 a2 a3 false)) else (augurylaw1_WordShifts.j0 k (wrap64 ((Go.bits .and .i64 a0 15) + 1)) a1 a2 a3 true))) = some r := H
  have A7 := Aside0.mk A70
  clear A70
  replace H := Option.bind_eq_some_iff.mp H
  obtain ⟨⟨t136, t137⟩, A80, H⟩ := H
  replace H : (if t134 = t132 then (if (wrap64 ((Go.bits .and .i64 a0 15) + 1)) > 1 then (if t130 = t132 then ((word_Mask.f (wrap64 ((Go.bits .and .i64 a0 15) + 1)) a1).bind fun t138 => (augurylaw1_WordShifts.j0 k (wrap64 ((Go.bits .and .i64 a0 15) + 1)) a1 a2 a3 (t136 != (wrap64 (Int.tdiv t138 2))))) else (augurylaw1_WordShifts.j0 k (wrap64 ((Go.bits .and .i64 a0 15) + 1)) a1 a2 a3 true)) else (augurylaw1_WordShifts.j0 k (wrap64 ((Go.bits .and .i64 a0 15) + 1)) a1 a2 a3 false)) else (augurylaw1_WordShifts.j0 k (wrap64 ((Go.bits .and .i64 a0 15) + 1)) a1 a2 a3 true)) = some r := H
  have A8 := Aside0.mk A80
  clear A80
  have HC9 := Aside0.mk H
  clear H
  go_enter Try.func6, Try.ntmps6
  go_upto_region 6 with (first | ((with_reducible refine gate_callee (f := 11) rfl ?_); refine goesL_ (some 35) rfl rfl Try.func11 (by kernel_rfl) rfl #[.int .i64 (wrap64 ((Go.bits .and .i64 a0 15) + 1)), .int .i64 6, .int .i64 a1, .int .i64 1] rfl (by (try simp only [List.map_toArray, List.map_cons, List.map_nil]); first | done | rfl | (simp only [List.length_drop, List.length_take]; rfl)) ?_; (with_reducible refine (word_Do.calls k (wrap64 ((Go.bits .and .i64 a0 15) + 1)) 6 a1 1 t130 t131 _ A5.out).mono ?_); rintro e w' ⟨rfl, ⟨nd, rfl⟩⟩; refine ⟨_, rfl, ?_⟩) | ((with_reducible refine gate_callee (f := 11) rfl ?_); refine goesL_ (some 41) rfl rfl Try.func11 (by kernel_rfl) rfl #[.int .i64 (wrap64 ((Go.bits .and .i64 a0 15) + 1)), .int .i64 8, .int .i64 a1, .int .i64 2] rfl (by (try simp only [List.map_toArray, List.map_cons, List.map_nil]); first | done | rfl | (simp only [List.length_drop, List.length_take]; rfl)) ?_; (with_reducible refine (word_Do.calls k (wrap64 ((Go.bits .and .i64 a0 15) + 1)) 8 a1 2 t132 t133 _ A6.out).mono ?_); rintro e w' ⟨rfl, ⟨nd, rfl⟩⟩; refine ⟨_, rfl, ?_⟩) | ((with_reducible refine gate_callee (f := 11) rfl ?_); refine goesL_ (some 48) rfl rfl Try.func11 (by kernel_rfl) rfl #[.int .i64 (wrap64 ((Go.bits .and .i64 a0 15) + 1)), .int .i64 1, .int .i64 a1, .int .i64 a1] rfl (by (try simp only [List.map_toArray, List.map_cons, List.map_nil]); first | done | rfl | (simp only [List.length_drop, List.length_take]; rfl)) ?_; (with_reducible refine (word_Do.calls k (wrap64 ((Go.bits .and .i64 a0 15) + 1)) 1 a1 a1 t134 t135 _ A7.out).mono ?_); rintro e w' ⟨rfl, ⟨nd, rfl⟩⟩; refine ⟨_, rfl, ?_⟩) | ((with_reducible refine gate_callee (f := 11) rfl ?_); refine goesL_ (some 54) rfl rfl Try.func11 (by kernel_rfl) rfl #[.int .i64 (wrap64 ((Go.bits .and .i64 a0 15) + 1)), .int .i64 7, .int .i64 a1, .int .i64 1] rfl (by (try simp only [List.map_toArray, List.map_cons, List.map_nil]); first | done | rfl | (simp only [List.length_drop, List.length_take]; rfl)) ?_; (with_reducible refine (word_Do.calls k (wrap64 ((Go.bits .and .i64 a0 15) + 1)) 7 a1 1 t136 t137 _ A8.out).mono ?_); rintro e w' ⟨rfl, ⟨nd, rfl⟩⟩; refine ⟨_, rfl, ?_⟩))
  (try simp only [Act.put, List.setIfInBounds_toArray, List.set_cons_zero, List.set_cons_succ])
  go_cut [76] (fun v76 wc => ∃ (kq : Nat) (x76_8 : Bool), v76 = .bool x76_8 ∧ Aside0 (augurylaw1_WordShifts.j0 kq (wrap64 ((Go.bits .and .i64 a0 15) + 1)) a1 a2 a3 x76_8 = some r) ∧ Aside0 (kq ≤ k) ∧ Drawn0 w wc)
  case first =>
    have H := HC9.out
    clear HC9
    by_cases c10 : t134 = t132
    · rw [if_pos c10] at H
      have c10b0 : (t134 == t132) = true := beq_iff_eq.mpr c10
      have c10b1 : (t134 != t132) = false := bne_eq_false_iff_eq.mpr c10
      clear c10
      (first | rw [c10b0] | (simp only [i64_w, i32_w]; rw [c10b0]) | skip)
      by_cases c11 : (wrap64 ((Go.bits .and .i64 a0 15) + 1)) > 1
      · rw [if_pos c11] at H
        have c11b0 : decide (1 < (wrap64 ((Go.bits .and .i64 a0 15) + 1))) = true := decide_eq_true c11
        clear c11
        by_cases c12 : t130 = t132
        · rw [if_pos c12] at H
          have c12b0 : (t130 == t132) = true := beq_iff_eq.mpr c12
          have c12b1 : (t130 != t132) = false := bne_eq_false_iff_eq.mpr c12
          clear c12
          replace H := Option.bind_eq_some_iff.mp H
          obtain ⟨t138, A130, H⟩ := H
          replace H : (augurylaw1_WordShifts.j0 k (wrap64 ((Go.bits .and .i64 a0 15) + 1)) a1 a2 a3 (t136 != (wrap64 (Int.tdiv t138 2)))) = some r := H
          have A13 := Aside0.mk A130
          clear A130
          have H' := Aside0.mk H
          clear H
          go_wp2_with (first | (go_at_call 12; (with_reducible refine (word_Mask.calls (wrap64 ((Go.bits .and .i64 a0 15) + 1)) a1 t138 _ A13.out).mono ?_); rintro e w' ⟨rfl, ⟨nd, rfl⟩⟩))
          go_meet
          case rel => exact ⟨_, ((t136 != (wrap64 (Int.tdiv t138 2)))), (by first | rfl | (simp; done) | (simp [*]; done)), H', ⟨by first | omega | exact Nat.le_refl _⟩, by repeat (first | exact Drawn0.refl _ | apply Drawn0.step)⟩
        · rw [if_neg c12] at H
          have c12b0 : (t130 == t132) = false := beq_eq_false_iff_ne.mpr c12
          have c12b1 : (t130 != t132) = true := bne_iff_ne.mpr c12
          have H' := Aside0.mk H
          clear H
          go_wp2
          go_meet
          case rel => exact ⟨_, (true), (by first | rfl | (simp; done) | (simp [*]; done)), H', ⟨by first | omega | exact Nat.le_refl _⟩, by repeat (first | exact Drawn0.refl _ | apply Drawn0.step)⟩
      · rw [if_neg c11] at H
        have c11b0 : decide (1 < (wrap64 ((Go.bits .and .i64 a0 15) + 1))) = false := decide_eq_false c11
        clear c11
        have H' := Aside0.mk H
        clear H
        go_wp2
        go_meet
        case rel => exact ⟨_, (false), (by first | rfl | (simp; done) | (simp [*]; done)), H', ⟨by first | omega | exact Nat.le_refl _⟩, by repeat (first | exact Drawn0.refl _ | apply Drawn0.step)⟩
    · rw [if_neg c10] at H
      have c10b0 : (t134 == t132) = false := beq_eq_false_iff_ne.mpr c10
      have c10b1 : (t134 != t132) = true := bne_iff_ne.mpr c10
      (first | rw [c10b0] | (simp only [i64_w, i32_w]; rw [c10b0]) | skip)
      have H' := Aside0.mk H
      clear H
      go_wp2
      go_meet
      case rel => exact ⟨_, (true), (by first | rfl | (simp; done) | (simp [*]; done)), H', ⟨by first | omega | exact Nat.le_refl _⟩, by repeat (first | exact Drawn0.refl _ | apply Drawn0.step)⟩
  case rest =>
    clear HC9
    try clear c1
    try clear p2
    try clear c6
    try clear p6
    try clear c10
    try clear c10b0
    try clear c10b1
    try clear c11
    try clear c11b0
    try clear c12
    try clear c12b0
    try clear c12b1
    obtain ⟨kq, x76_8, rfl, HA, HJ8, ⟨mc8, rfl⟩⟩ := hcut
    cases kq with
    | zero => exact absurd HA.out (by simp [augurylaw1_WordShifts.j0])
    | succ kj8 =>
      have H := HA.out
      clear HA
      simp only [augurylaw1_WordShifts.j0] at H
      by_cases c14 : x76_8 = true
      · subst c14
        have H1 : (some false) = some r := by rw [if_pos rfl] at H; exact H
        clear H
        have H := H1
        clear H1
        obtain rfl := Option.some.inj H
        go_wp2
        go_ret
        exact ⟨by first | rfl | (simp; done) | (simp [*]; done), by repeat (first | exact Drawn0.refl _ | apply Drawn0.step)⟩
      · replace c14 := Bool.eq_false_iff.mpr c14
        subst c14
        have H1 : ((word_Size.f (wrap64 ((Go.bits .and .i64 a0 15) + 1))).bind fun t139 => (if (wrap64 ((Go.bits .and .i64 a2 7) + (Go.bits .and .i64 a3 7))) ≥ t139 then ((augurylaw1_awake.f kj8).bind fun t140 => (some t140)) else ((word_Do.f kj8 (wrap64 ((Go.bits .and .i64 a0 15) + 1)) 6 a1 (Go.bits .and .i64 a2 7)).bind fun bt141 => ((word_Do.f kj8 (wrap64 ((Go.bits .and .i64 a0 15) + 1)) 6 bt141.1 (Go.bits .and .i64 a3 7)).bind fun bt143 => ((word_Do.f kj8 (wrap64 ((Go.bits .and .i64 a0 15) + 1)) 6 a1 (wrap64 ((Go.bits .and .i64 a2 7) + (Go.bits .and .i64 a3 7)))).bind fun bt145 => ((word_Do.f kj8 (wrap64 ((Go.bits .and .i64 a0 15) + 1)) 7 a1 (Go.bits .and .i64 a2 7)).bind fun bt147 => ((word_Do.f kj8 (wrap64 ((Go.bits .and .i64 a0 15) + 1)) 7 bt147.1 (Go.bits .and .i64 a3 7)).bind fun bt149 => ((word_Do.f kj8 (wrap64 ((Go.bits .and .i64 a0 15) + 1)) 7 a1 (wrap64 ((Go.bits .and .i64 a2 7) + (Go.bits .and .i64 a3 7)))).bind fun bt151 => (if bt145.2 = true then (if bt143.1 = bt145.1 then (if bt149.1 = bt151.1 then ((augurylaw1_awake.f kj8).bind fun t153 => (some t153)) else (some false)) else (some false)) else (some false)))))))))) = some r := by rw [if_neg (show ¬ (false = true) by decide)] at H; exact H
        clear H
        have H := H1
        clear H1
        replace H := Option.bind_eq_some_iff.mp H
        obtain ⟨t139, A150, H⟩ := H
        replace H : (if (wrap64 ((Go.bits .and .i64 a2 7) + (Go.bits .and .i64 a3 7))) ≥ t139 then ((augurylaw1_awake.f kj8).bind fun t140 => (some t140)) else ((word_Do.f kj8 (wrap64 ((Go.bits .and .i64 a0 15) + 1)) 6 a1 (Go.bits .and .i64 a2 7)).bind fun bt141 => ((word_Do.f kj8 (wrap64 ((Go.bits .and .i64 a0 15) + 1)) 6 bt141.1 (Go.bits .and .i64 a3 7)).bind fun bt143 => ((word_Do.f kj8 (wrap64 ((Go.bits .and .i64 a0 15) + 1)) 6 a1 (wrap64 ((Go.bits .and .i64 a2 7) + (Go.bits .and .i64 a3 7)))).bind fun bt145 => ((word_Do.f kj8 (wrap64 ((Go.bits .and .i64 a0 15) + 1)) 7 a1 (Go.bits .and .i64 a2 7)).bind fun bt147 => ((word_Do.f kj8 (wrap64 ((Go.bits .and .i64 a0 15) + 1)) 7 bt147.1 (Go.bits .and .i64 a3 7)).bind fun bt149 => ((word_Do.f kj8 (wrap64 ((Go.bits .and .i64 a0 15) + 1)) 7 a1 (wrap64 ((Go.bits .and .i64 a2 7) + (Go.bits .and .i64 a3 7)))).bind fun bt151 => (if bt145.2 = true then (if bt143.1 = bt145.1 then (if bt149.1 = bt151.1 then ((augurylaw1_awake.f kj8).bind fun t153 => (some t153)) else (some false)) else (some false)) else (some false))))))))) = some r := H
        have A15 := Aside0.mk A150
        clear A150
        by_cases c16 : (wrap64 ((Go.bits .and .i64 a2 7) + (Go.bits .and .i64 a3 7))) ≥ t139
        · rw [if_pos c16] at H
          have c16b0 : decide (t139 ≤ (wrap64 ((Go.bits .and .i64 a2 7) + (Go.bits .and .i64 a3 7)))) = true := decide_eq_true c16
          clear c16
          replace H := Option.bind_eq_some_iff.mp H
          obtain ⟨t140, A170, H⟩ := H
          replace H : (some t140) = some r := H
          have A17 := Aside0.mk A170
          clear A170
          obtain rfl := Option.some.inj H
          go_wp2_with (first | ((with_reducible refine gate_callee (f := 14) rfl ?_); refine goesL_ (some 85) rfl rfl Try.func14 (by kernel_rfl) rfl #[.int .i64 (wrap64 ((Go.bits .and .i64 a0 15) + 1))] rfl (by (try simp only [List.map_toArray, List.map_cons, List.map_nil]); first | done | rfl | (simp only [List.length_drop, List.length_take]; rfl)) ?_; (with_reducible refine (word_Size.calls (wrap64 ((Go.bits .and .i64 a0 15) + 1)) t139 _ A15.out).mono ?_); rintro e w' ⟨rfl, ⟨nd, rfl⟩⟩; refine ⟨_, rfl, ?_⟩) | ((with_reducible refine gate_callee (f := 13) rfl ?_); refine goesL_ (some 87) rfl rfl Try.func13 (by kernel_rfl) rfl #[] rfl (by (try simp only [List.map_toArray, List.map_cons, List.map_nil]); first | done | rfl | (simp only [List.length_drop, List.length_take]; rfl)) ?_; (with_reducible refine (augurylaw1_awake.calls kj8  t140 _ A17.out).mono ?_); rintro e w' ⟨rfl, ⟨nd, rfl⟩⟩; refine ⟨_, rfl, ?_⟩))
          go_ret
          exact ⟨by first | rfl | (simp; done) | (simp [*]; done), by repeat (first | exact Drawn0.refl _ | apply Drawn0.step)⟩
        · rw [if_neg c16] at H
          have c16b0 : decide (t139 ≤ (wrap64 ((Go.bits .and .i64 a2 7) + (Go.bits .and .i64 a3 7)))) = false := decide_eq_false c16
          clear c16
          replace H := Option.bind_eq_some_iff.mp H
          obtain ⟨⟨t141, t142⟩, A180, H⟩ := H
          replace H : ((word_Do.f kj8 (wrap64 ((Go.bits .and .i64 a0 15) + 1)) 6 t141 (Go.bits .and .i64 a3 7)).bind fun bt143 => ((word_Do.f kj8 (wrap64 ((Go.bits .and .i64 a0 15) + 1)) 6 a1 (wrap64 ((Go.bits .and .i64 a2 7) + (Go.bits .and .i64 a3 7)))).bind fun bt145 => ((word_Do.f kj8 (wrap64 ((Go.bits .and .i64 a0 15) + 1)) 7 a1 (Go.bits .and .i64 a2 7)).bind fun bt147 => ((word_Do.f kj8 (wrap64 ((Go.bits .and .i64 a0 15) + 1)) 7 bt147.1 (Go.bits .and .i64 a3 7)).bind fun bt149 => ((word_Do.f kj8 (wrap64 ((Go.bits .and .i64 a0 15) + 1)) 7 a1 (wrap64 ((Go.bits .and .i64 a2 7) + (Go.bits .and .i64 a3 7)))).bind fun bt151 => (if bt145.2 = true then (if bt143.1 = bt145.1 then (if bt149.1 = bt151.1 then ((augurylaw1_awake.f kj8).bind fun t153 => (some t153)) else (some false)) else (some false)) else (some false))))))) = some r := H
          have A18 := Aside0.mk A180
          clear A180
          replace H := Option.bind_eq_some_iff.mp H
          obtain ⟨⟨t143, t144⟩, A190, H⟩ := H
          replace H : ((word_Do.f kj8 (wrap64 ((Go.bits .and .i64 a0 15) + 1)) 6 a1 (wrap64 ((Go.bits .and .i64 a2 7) + (Go.bits .and .i64 a3 7)))).bind fun bt145 => ((word_Do.f kj8 (wrap64 ((Go.bits .and .i64 a0 15) + 1)) 7 a1 (Go.bits .and .i64 a2 7)).bind fun bt147 => ((word_Do.f kj8 (wrap64 ((Go.bits .and .i64 a0 15) + 1)) 7 bt147.1 (Go.bits .and .i64 a3 7)).bind fun bt149 => ((word_Do.f kj8 (wrap64 ((Go.bits .and .i64 a0 15) + 1)) 7 a1 (wrap64 ((Go.bits .and .i64 a2 7) + (Go.bits .and .i64 a3 7)))).bind fun bt151 => (if bt145.2 = true then (if t143 = bt145.1 then (if bt149.1 = bt151.1 then ((augurylaw1_awake.f kj8).bind fun t153 => (some t153)) else (some false)) else (some false)) else (some false)))))) = some r := H
          have A19 := Aside0.mk A190
          clear A190
          replace H := Option.bind_eq_some_iff.mp H
          obtain ⟨⟨t145, t146⟩, A200, H⟩ := H
          replace H : ((word_Do.f kj8 (wrap64 ((Go.bits .and .i64 a0 15) + 1)) 7 a1 (Go.bits .and .i64 a2 7)).bind fun bt147 => ((word_Do.f kj8 (wrap64 ((Go.bits .and .i64 a0 15) + 1)) 7 bt147.1 (Go.bits .and .i64 a3 7)).bind fun bt149 => ((word_Do.f kj8 (wrap64 ((Go.bits .and .i64 a0 15) + 1)) 7 a1 (wrap64 ((Go.bits .and .i64 a2 7) + (Go.bits .and .i64 a3 7)))).bind fun bt151 => (if t146 = true then (if t143 = t145 then (if bt149.1 = bt151.1 then ((augurylaw1_awake.f kj8).bind fun t153 => (some t153)) else (some false)) else (some false)) else (some false))))) = some r := H
          have A20 := Aside0.mk A200
          clear A200
          replace H := Option.bind_eq_some_iff.mp H
          obtain ⟨⟨t147, t148⟩, A210, H⟩ := H
          replace H : ((word_Do.f kj8 (wrap64 ((Go.bits .and .i64 a0 15) + 1)) 7 t147 (Go.bits .and .i64 a3 7)).bind fun bt149 => ((word_Do.f kj8 (wrap64 ((Go.bits .and .i64 a0 15) + 1)) 7 a1 (wrap64 ((Go.bits .and .i64 a2 7) + (Go.bits .and .i64 a3 7)))).bind fun bt151 => (if t146 = true then (if t143 = t145 then (if bt149.1 = bt151.1 then ((augurylaw1_awake.f kj8).bind fun t153 => (some t153)) else (some false)) else (some false)) else (some false)))) = some r := H
          have A21 := Aside0.mk A210
          clear A210
          replace H := Option.bind_eq_some_iff.mp H
          obtain ⟨⟨t149, t150⟩, A220, H⟩ := H
          replace H : ((word_Do.f kj8 (wrap64 ((Go.bits .and .i64 a0 15) + 1)) 7 a1 (wrap64 ((Go.bits .and .i64 a2 7) + (Go.bits .and .i64 a3 7)))).bind fun bt151 => (if t146 = true then (if t143 = t145 then (if t149 = bt151.1 then ((augurylaw1_awake.f kj8).bind fun t153 => (some t153)) else (some false)) else (some false)) else (some false))) = some r := H
          have A22 := Aside0.mk A220
          clear A220
          replace H := Option.bind_eq_some_iff.mp H
          obtain ⟨⟨t151, t152⟩, A230, H⟩ := H
          replace H : (if t146 = true then (if t143 = t145 then (if t149 = t151 then ((augurylaw1_awake.f kj8).bind fun t153 => (some t153)) else (some false)) else (some false)) else (some false)) = some r := H
          have A23 := Aside0.mk A230
          clear A230
          by_cases c24 : t146 = true
          · subst c24
            have H1 : (if t143 = t145 then (if t149 = t151 then ((augurylaw1_awake.f kj8).bind fun t153 => (some t153)) else (some false)) else (some false)) = some r := by rw [if_pos rfl] at H; exact H
            clear H
            have H := H1
            clear H1
            by_cases c25 : t143 = t145
            · rw [if_pos c25] at H
              have c25b0 : (t143 == t145) = true := beq_iff_eq.mpr c25
              have c25b1 : (t143 != t145) = false := bne_eq_false_iff_eq.mpr c25
              clear c25
              by_cases c26 : t149 = t151
              · rw [if_pos c26] at H
                have c26b0 : (t149 == t151) = true := beq_iff_eq.mpr c26
                have c26b1 : (t149 != t151) = false := bne_eq_false_iff_eq.mpr c26
                clear c26
                replace H := Option.bind_eq_some_iff.mp H
                obtain ⟨t153, A270, H⟩ := H
                replace H : (some t153) = some r := H
                have A27 := Aside0.mk A270
                clear A270
                obtain rfl := Option.some.inj H
                go_wp2_with (first | ((with_reducible refine gate_callee (f := 14) rfl ?_); refine goesL_ (some 85) rfl rfl Try.func14 (by kernel_rfl) rfl #[.int .i64 (wrap64 ((Go.bits .and .i64 a0 15) + 1))] rfl (by (try simp only [List.map_toArray, List.map_cons, List.map_nil]); first | done | rfl | (simp only [List.length_drop, List.length_take]; rfl)) ?_; (with_reducible refine (word_Size.calls (wrap64 ((Go.bits .and .i64 a0 15) + 1)) t139 _ A15.out).mono ?_); rintro e w' ⟨rfl, ⟨nd, rfl⟩⟩; refine ⟨_, rfl, ?_⟩) | ((with_reducible refine gate_callee (f := 11) rfl ?_); refine goesL_ (some 92) rfl rfl Try.func11 (by kernel_rfl) rfl #[.int .i64 (wrap64 ((Go.bits .and .i64 a0 15) + 1)), .int .i64 6, .int .i64 a1, .int .i64 (Go.bits .and .i64 a2 7)] rfl (by (try simp only [List.map_toArray, List.map_cons, List.map_nil]); first | done | rfl | (simp only [List.length_drop, List.length_take]; rfl)) ?_; (with_reducible refine (word_Do.calls kj8 (wrap64 ((Go.bits .and .i64 a0 15) + 1)) 6 a1 (Go.bits .and .i64 a2 7) t141 t142 _ A18.out).mono ?_); rintro e w' ⟨rfl, ⟨nd, rfl⟩⟩; refine ⟨_, rfl, ?_⟩) | ((with_reducible refine gate_callee (f := 11) rfl ?_); refine goesL_ (some 99) rfl rfl Try.func11 (by kernel_rfl) rfl #[.int .i64 (wrap64 ((Go.bits .and .i64 a0 15) + 1)), .int .i64 6, .int .i64 t141, .int .i64 (Go.bits .and .i64 a3 7)] rfl (by (try simp only [List.map_toArray, List.map_cons, List.map_nil]); first | done | rfl | (simp only [List.length_drop, List.length_take]; rfl)) ?_; (with_reducible refine (word_Do.calls kj8 (wrap64 ((Go.bits .and .i64 a0 15) + 1)) 6 t141 (Go.bits .and .i64 a3 7) t143 t144 _ A19.out).mono ?_); rintro e w' ⟨rfl, ⟨nd, rfl⟩⟩; refine ⟨_, rfl, ?_⟩) | ((with_reducible refine gate_callee (f := 11) rfl ?_); refine goesL_ (some 108) rfl rfl Try.func11 (by kernel_rfl) rfl #[.int .i64 (wrap64 ((Go.bits .and .i64 a0 15) + 1)), .int .i64 6, .int .i64 a1, .int .i64 (wrap64 ((Go.bits .and .i64 a2 7) + (Go.bits .and .i64 a3 7)))] rfl (by (try simp only [List.map_toArray, List.map_cons, List.map_nil]); first | done | rfl | (simp only [List.length_drop, List.length_take]; rfl)) ?_; (with_reducible refine (word_Do.calls kj8 (wrap64 ((Go.bits .and .i64 a0 15) + 1)) 6 a1 (wrap64 ((Go.bits .and .i64 a2 7) + (Go.bits .and .i64 a3 7))) t145 true _ A20.out).mono ?_); rintro e w' ⟨rfl, ⟨nd, rfl⟩⟩; refine ⟨_, rfl, ?_⟩) | ((with_reducible refine gate_callee (f := 11) rfl ?_); refine goesL_ (some 115) rfl rfl Try.func11 (by kernel_rfl) rfl #[.int .i64 (wrap64 ((Go.bits .and .i64 a0 15) + 1)), .int .i64 7, .int .i64 a1, .int .i64 (Go.bits .and .i64 a2 7)] rfl (by (try simp only [List.map_toArray, List.map_cons, List.map_nil]); first | done | rfl | (simp only [List.length_drop, List.length_take]; rfl)) ?_; (with_reducible refine (word_Do.calls kj8 (wrap64 ((Go.bits .and .i64 a0 15) + 1)) 7 a1 (Go.bits .and .i64 a2 7) t147 t148 _ A21.out).mono ?_); rintro e w' ⟨rfl, ⟨nd, rfl⟩⟩; refine ⟨_, rfl, ?_⟩) | ((with_reducible refine gate_callee (f := 11) rfl ?_); refine goesL_ (some 122) rfl rfl Try.func11 (by kernel_rfl) rfl #[.int .i64 (wrap64 ((Go.bits .and .i64 a0 15) + 1)), .int .i64 7, .int .i64 t147, .int .i64 (Go.bits .and .i64 a3 7)] rfl (by (try simp only [List.map_toArray, List.map_cons, List.map_nil]); first | done | rfl | (simp only [List.length_drop, List.length_take]; rfl)) ?_; (with_reducible refine (word_Do.calls kj8 (wrap64 ((Go.bits .and .i64 a0 15) + 1)) 7 t147 (Go.bits .and .i64 a3 7) t149 t150 _ A22.out).mono ?_); rintro e w' ⟨rfl, ⟨nd, rfl⟩⟩; refine ⟨_, rfl, ?_⟩) | ((with_reducible refine gate_callee (f := 11) rfl ?_); refine goesL_ (some 131) rfl rfl Try.func11 (by kernel_rfl) rfl #[.int .i64 (wrap64 ((Go.bits .and .i64 a0 15) + 1)), .int .i64 7, .int .i64 a1, .int .i64 (wrap64 ((Go.bits .and .i64 a2 7) + (Go.bits .and .i64 a3 7)))] rfl (by (try simp only [List.map_toArray, List.map_cons, List.map_nil]); first | done | rfl | (simp only [List.length_drop, List.length_take]; rfl)) ?_; (with_reducible refine (word_Do.calls kj8 (wrap64 ((Go.bits .and .i64 a0 15) + 1)) 7 a1 (wrap64 ((Go.bits .and .i64 a2 7) + (Go.bits .and .i64 a3 7))) t151 t152 _ A23.out).mono ?_); rintro e w' ⟨rfl, ⟨nd, rfl⟩⟩; refine ⟨_, rfl, ?_⟩) | (go_at_call 13; (with_reducible refine (augurylaw1_awake.calls kj8  t153 _ A27.out).mono ?_); rintro e w' ⟨rfl, ⟨nd, rfl⟩⟩))
                go_ret
                exact ⟨by first | rfl | (simp; done) | (simp [*]; done), by repeat (first | exact Drawn0.refl _ | apply Drawn0.step)⟩
              · rw [if_neg c26] at H
                have c26b0 : (t149 == t151) = false := beq_eq_false_iff_ne.mpr c26
                have c26b1 : (t149 != t151) = true := bne_iff_ne.mpr c26
                obtain rfl := Option.some.inj H
                go_wp2_with (first | ((with_reducible refine gate_callee (f := 14) rfl ?_); refine goesL_ (some 85) rfl rfl Try.func14 (by kernel_rfl) rfl #[.int .i64 (wrap64 ((Go.bits .and .i64 a0 15) + 1))] rfl (by (try simp only [List.map_toArray, List.map_cons, List.map_nil]); first | done | rfl | (simp only [List.length_drop, List.length_take]; rfl)) ?_; (with_reducible refine (word_Size.calls (wrap64 ((Go.bits .and .i64 a0 15) + 1)) t139 _ A15.out).mono ?_); rintro e w' ⟨rfl, ⟨nd, rfl⟩⟩; refine ⟨_, rfl, ?_⟩) | ((with_reducible refine gate_callee (f := 11) rfl ?_); refine goesL_ (some 92) rfl rfl Try.func11 (by kernel_rfl) rfl #[.int .i64 (wrap64 ((Go.bits .and .i64 a0 15) + 1)), .int .i64 6, .int .i64 a1, .int .i64 (Go.bits .and .i64 a2 7)] rfl (by (try simp only [List.map_toArray, List.map_cons, List.map_nil]); first | done | rfl | (simp only [List.length_drop, List.length_take]; rfl)) ?_; (with_reducible refine (word_Do.calls kj8 (wrap64 ((Go.bits .and .i64 a0 15) + 1)) 6 a1 (Go.bits .and .i64 a2 7) t141 t142 _ A18.out).mono ?_); rintro e w' ⟨rfl, ⟨nd, rfl⟩⟩; refine ⟨_, rfl, ?_⟩) | ((with_reducible refine gate_callee (f := 11) rfl ?_); refine goesL_ (some 99) rfl rfl Try.func11 (by kernel_rfl) rfl #[.int .i64 (wrap64 ((Go.bits .and .i64 a0 15) + 1)), .int .i64 6, .int .i64 t141, .int .i64 (Go.bits .and .i64 a3 7)] rfl (by (try simp only [List.map_toArray, List.map_cons, List.map_nil]); first | done | rfl | (simp only [List.length_drop, List.length_take]; rfl)) ?_; (with_reducible refine (word_Do.calls kj8 (wrap64 ((Go.bits .and .i64 a0 15) + 1)) 6 t141 (Go.bits .and .i64 a3 7) t143 t144 _ A19.out).mono ?_); rintro e w' ⟨rfl, ⟨nd, rfl⟩⟩; refine ⟨_, rfl, ?_⟩) | ((with_reducible refine gate_callee (f := 11) rfl ?_); refine goesL_ (some 108) rfl rfl Try.func11 (by kernel_rfl) rfl #[.int .i64 (wrap64 ((Go.bits .and .i64 a0 15) + 1)), .int .i64 6, .int .i64 a1, .int .i64 (wrap64 ((Go.bits .and .i64 a2 7) + (Go.bits .and .i64 a3 7)))] rfl (by (try simp only [List.map_toArray, List.map_cons, List.map_nil]); first | done | rfl | (simp only [List.length_drop, List.length_take]; rfl)) ?_; (with_reducible refine (word_Do.calls kj8 (wrap64 ((Go.bits .and .i64 a0 15) + 1)) 6 a1 (wrap64 ((Go.bits .and .i64 a2 7) + (Go.bits .and .i64 a3 7))) t145 true _ A20.out).mono ?_); rintro e w' ⟨rfl, ⟨nd, rfl⟩⟩; refine ⟨_, rfl, ?_⟩) | ((with_reducible refine gate_callee (f := 11) rfl ?_); refine goesL_ (some 115) rfl rfl Try.func11 (by kernel_rfl) rfl #[.int .i64 (wrap64 ((Go.bits .and .i64 a0 15) + 1)), .int .i64 7, .int .i64 a1, .int .i64 (Go.bits .and .i64 a2 7)] rfl (by (try simp only [List.map_toArray, List.map_cons, List.map_nil]); first | done | rfl | (simp only [List.length_drop, List.length_take]; rfl)) ?_; (with_reducible refine (word_Do.calls kj8 (wrap64 ((Go.bits .and .i64 a0 15) + 1)) 7 a1 (Go.bits .and .i64 a2 7) t147 t148 _ A21.out).mono ?_); rintro e w' ⟨rfl, ⟨nd, rfl⟩⟩; refine ⟨_, rfl, ?_⟩) | ((with_reducible refine gate_callee (f := 11) rfl ?_); refine goesL_ (some 122) rfl rfl Try.func11 (by kernel_rfl) rfl #[.int .i64 (wrap64 ((Go.bits .and .i64 a0 15) + 1)), .int .i64 7, .int .i64 t147, .int .i64 (Go.bits .and .i64 a3 7)] rfl (by (try simp only [List.map_toArray, List.map_cons, List.map_nil]); first | done | rfl | (simp only [List.length_drop, List.length_take]; rfl)) ?_; (with_reducible refine (word_Do.calls kj8 (wrap64 ((Go.bits .and .i64 a0 15) + 1)) 7 t147 (Go.bits .and .i64 a3 7) t149 t150 _ A22.out).mono ?_); rintro e w' ⟨rfl, ⟨nd, rfl⟩⟩; refine ⟨_, rfl, ?_⟩) | ((with_reducible refine gate_callee (f := 11) rfl ?_); refine goesL_ (some 131) rfl rfl Try.func11 (by kernel_rfl) rfl #[.int .i64 (wrap64 ((Go.bits .and .i64 a0 15) + 1)), .int .i64 7, .int .i64 a1, .int .i64 (wrap64 ((Go.bits .and .i64 a2 7) + (Go.bits .and .i64 a3 7)))] rfl (by (try simp only [List.map_toArray, List.map_cons, List.map_nil]); first | done | rfl | (simp only [List.length_drop, List.length_take]; rfl)) ?_; (with_reducible refine (word_Do.calls kj8 (wrap64 ((Go.bits .and .i64 a0 15) + 1)) 7 a1 (wrap64 ((Go.bits .and .i64 a2 7) + (Go.bits .and .i64 a3 7))) t151 t152 _ A23.out).mono ?_); rintro e w' ⟨rfl, ⟨nd, rfl⟩⟩; refine ⟨_, rfl, ?_⟩))
                go_ret
                exact ⟨by first | rfl | (simp; done) | (simp [*]; done), by repeat (first | exact Drawn0.refl _ | apply Drawn0.step)⟩
            · rw [if_neg c25] at H
              have c25b0 : (t143 == t145) = false := beq_eq_false_iff_ne.mpr c25
              have c25b1 : (t143 != t145) = true := bne_iff_ne.mpr c25
              obtain rfl := Option.some.inj H
              go_wp2_with (first | ((with_reducible refine gate_callee (f := 14) rfl ?_); refine goesL_ (some 85) rfl rfl Try.func14 (by kernel_rfl) rfl #[.int .i64 (wrap64 ((Go.bits .and .i64 a0 15) + 1))] rfl (by (try simp only [List.map_toArray, List.map_cons, List.map_nil]); first | done | rfl | (simp only [List.length_drop, List.length_take]; rfl)) ?_; (with_reducible refine (word_Size.calls (wrap64 ((Go.bits .and .i64 a0 15) + 1)) t139 _ A15.out).mono ?_); rintro e w' ⟨rfl, ⟨nd, rfl⟩⟩; refine ⟨_, rfl, ?_⟩) | ((with_reducible refine gate_callee (f := 11) rfl ?_); refine goesL_ (some 92) rfl rfl Try.func11 (by kernel_rfl) rfl #[.int .i64 (wrap64 ((Go.bits .and .i64 a0 15) + 1)), .int .i64 6, .int .i64 a1, .int .i64 (Go.bits .and .i64 a2 7)] rfl (by (try simp only [List.map_toArray, List.map_cons, List.map_nil]); first | done | rfl | (simp only [List.length_drop, List.length_take]; rfl)) ?_; (with_reducible refine (word_Do.calls kj8 (wrap64 ((Go.bits .and .i64 a0 15) + 1)) 6 a1 (Go.bits .and .i64 a2 7) t141 t142 _ A18.out).mono ?_); rintro e w' ⟨rfl, ⟨nd, rfl⟩⟩; refine ⟨_, rfl, ?_⟩) | ((with_reducible refine gate_callee (f := 11) rfl ?_); refine goesL_ (some 99) rfl rfl Try.func11 (by kernel_rfl) rfl #[.int .i64 (wrap64 ((Go.bits .and .i64 a0 15) + 1)), .int .i64 6, .int .i64 t141, .int .i64 (Go.bits .and .i64 a3 7)] rfl (by (try simp only [List.map_toArray, List.map_cons, List.map_nil]); first | done | rfl | (simp only [List.length_drop, List.length_take]; rfl)) ?_; (with_reducible refine (word_Do.calls kj8 (wrap64 ((Go.bits .and .i64 a0 15) + 1)) 6 t141 (Go.bits .and .i64 a3 7) t143 t144 _ A19.out).mono ?_); rintro e w' ⟨rfl, ⟨nd, rfl⟩⟩; refine ⟨_, rfl, ?_⟩) | ((with_reducible refine gate_callee (f := 11) rfl ?_); refine goesL_ (some 108) rfl rfl Try.func11 (by kernel_rfl) rfl #[.int .i64 (wrap64 ((Go.bits .and .i64 a0 15) + 1)), .int .i64 6, .int .i64 a1, .int .i64 (wrap64 ((Go.bits .and .i64 a2 7) + (Go.bits .and .i64 a3 7)))] rfl (by (try simp only [List.map_toArray, List.map_cons, List.map_nil]); first | done | rfl | (simp only [List.length_drop, List.length_take]; rfl)) ?_; (with_reducible refine (word_Do.calls kj8 (wrap64 ((Go.bits .and .i64 a0 15) + 1)) 6 a1 (wrap64 ((Go.bits .and .i64 a2 7) + (Go.bits .and .i64 a3 7))) t145 true _ A20.out).mono ?_); rintro e w' ⟨rfl, ⟨nd, rfl⟩⟩; refine ⟨_, rfl, ?_⟩) | ((with_reducible refine gate_callee (f := 11) rfl ?_); refine goesL_ (some 115) rfl rfl Try.func11 (by kernel_rfl) rfl #[.int .i64 (wrap64 ((Go.bits .and .i64 a0 15) + 1)), .int .i64 7, .int .i64 a1, .int .i64 (Go.bits .and .i64 a2 7)] rfl (by (try simp only [List.map_toArray, List.map_cons, List.map_nil]); first | done | rfl | (simp only [List.length_drop, List.length_take]; rfl)) ?_; (with_reducible refine (word_Do.calls kj8 (wrap64 ((Go.bits .and .i64 a0 15) + 1)) 7 a1 (Go.bits .and .i64 a2 7) t147 t148 _ A21.out).mono ?_); rintro e w' ⟨rfl, ⟨nd, rfl⟩⟩; refine ⟨_, rfl, ?_⟩) | ((with_reducible refine gate_callee (f := 11) rfl ?_); refine goesL_ (some 122) rfl rfl Try.func11 (by kernel_rfl) rfl #[.int .i64 (wrap64 ((Go.bits .and .i64 a0 15) + 1)), .int .i64 7, .int .i64 t147, .int .i64 (Go.bits .and .i64 a3 7)] rfl (by (try simp only [List.map_toArray, List.map_cons, List.map_nil]); first | done | rfl | (simp only [List.length_drop, List.length_take]; rfl)) ?_; (with_reducible refine (word_Do.calls kj8 (wrap64 ((Go.bits .and .i64 a0 15) + 1)) 7 t147 (Go.bits .and .i64 a3 7) t149 t150 _ A22.out).mono ?_); rintro e w' ⟨rfl, ⟨nd, rfl⟩⟩; refine ⟨_, rfl, ?_⟩) | ((with_reducible refine gate_callee (f := 11) rfl ?_); refine goesL_ (some 131) rfl rfl Try.func11 (by kernel_rfl) rfl #[.int .i64 (wrap64 ((Go.bits .and .i64 a0 15) + 1)), .int .i64 7, .int .i64 a1, .int .i64 (wrap64 ((Go.bits .and .i64 a2 7) + (Go.bits .and .i64 a3 7)))] rfl (by (try simp only [List.map_toArray, List.map_cons, List.map_nil]); first | done | rfl | (simp only [List.length_drop, List.length_take]; rfl)) ?_; (with_reducible refine (word_Do.calls kj8 (wrap64 ((Go.bits .and .i64 a0 15) + 1)) 7 a1 (wrap64 ((Go.bits .and .i64 a2 7) + (Go.bits .and .i64 a3 7))) t151 t152 _ A23.out).mono ?_); rintro e w' ⟨rfl, ⟨nd, rfl⟩⟩; refine ⟨_, rfl, ?_⟩))
              go_ret
              exact ⟨by first | rfl | (simp; done) | (simp [*]; done), by repeat (first | exact Drawn0.refl _ | apply Drawn0.step)⟩
          · replace c24 := Bool.eq_false_iff.mpr c24
            subst c24
            have H1 : (some false) = some r := by rw [if_neg (show ¬ (false = true) by decide)] at H; exact H
            clear H
            have H := H1
            clear H1
            obtain rfl := Option.some.inj H
            go_wp2_with (first | ((with_reducible refine gate_callee (f := 14) rfl ?_); refine goesL_ (some 85) rfl rfl Try.func14 (by kernel_rfl) rfl #[.int .i64 (wrap64 ((Go.bits .and .i64 a0 15) + 1))] rfl (by (try simp only [List.map_toArray, List.map_cons, List.map_nil]); first | done | rfl | (simp only [List.length_drop, List.length_take]; rfl)) ?_; (with_reducible refine (word_Size.calls (wrap64 ((Go.bits .and .i64 a0 15) + 1)) t139 _ A15.out).mono ?_); rintro e w' ⟨rfl, ⟨nd, rfl⟩⟩; refine ⟨_, rfl, ?_⟩) | ((with_reducible refine gate_callee (f := 11) rfl ?_); refine goesL_ (some 92) rfl rfl Try.func11 (by kernel_rfl) rfl #[.int .i64 (wrap64 ((Go.bits .and .i64 a0 15) + 1)), .int .i64 6, .int .i64 a1, .int .i64 (Go.bits .and .i64 a2 7)] rfl (by (try simp only [List.map_toArray, List.map_cons, List.map_nil]); first | done | rfl | (simp only [List.length_drop, List.length_take]; rfl)) ?_; (with_reducible refine (word_Do.calls kj8 (wrap64 ((Go.bits .and .i64 a0 15) + 1)) 6 a1 (Go.bits .and .i64 a2 7) t141 t142 _ A18.out).mono ?_); rintro e w' ⟨rfl, ⟨nd, rfl⟩⟩; refine ⟨_, rfl, ?_⟩) | ((with_reducible refine gate_callee (f := 11) rfl ?_); refine goesL_ (some 99) rfl rfl Try.func11 (by kernel_rfl) rfl #[.int .i64 (wrap64 ((Go.bits .and .i64 a0 15) + 1)), .int .i64 6, .int .i64 t141, .int .i64 (Go.bits .and .i64 a3 7)] rfl (by (try simp only [List.map_toArray, List.map_cons, List.map_nil]); first | done | rfl | (simp only [List.length_drop, List.length_take]; rfl)) ?_; (with_reducible refine (word_Do.calls kj8 (wrap64 ((Go.bits .and .i64 a0 15) + 1)) 6 t141 (Go.bits .and .i64 a3 7) t143 t144 _ A19.out).mono ?_); rintro e w' ⟨rfl, ⟨nd, rfl⟩⟩; refine ⟨_, rfl, ?_⟩) | ((with_reducible refine gate_callee (f := 11) rfl ?_); refine goesL_ (some 108) rfl rfl Try.func11 (by kernel_rfl) rfl #[.int .i64 (wrap64 ((Go.bits .and .i64 a0 15) + 1)), .int .i64 6, .int .i64 a1, .int .i64 (wrap64 ((Go.bits .and .i64 a2 7) + (Go.bits .and .i64 a3 7)))] rfl (by (try simp only [List.map_toArray, List.map_cons, List.map_nil]); first | done | rfl | (simp only [List.length_drop, List.length_take]; rfl)) ?_; (with_reducible refine (word_Do.calls kj8 (wrap64 ((Go.bits .and .i64 a0 15) + 1)) 6 a1 (wrap64 ((Go.bits .and .i64 a2 7) + (Go.bits .and .i64 a3 7))) t145 false _ A20.out).mono ?_); rintro e w' ⟨rfl, ⟨nd, rfl⟩⟩; refine ⟨_, rfl, ?_⟩) | ((with_reducible refine gate_callee (f := 11) rfl ?_); refine goesL_ (some 115) rfl rfl Try.func11 (by kernel_rfl) rfl #[.int .i64 (wrap64 ((Go.bits .and .i64 a0 15) + 1)), .int .i64 7, .int .i64 a1, .int .i64 (Go.bits .and .i64 a2 7)] rfl (by (try simp only [List.map_toArray, List.map_cons, List.map_nil]); first | done | rfl | (simp only [List.length_drop, List.length_take]; rfl)) ?_; (with_reducible refine (word_Do.calls kj8 (wrap64 ((Go.bits .and .i64 a0 15) + 1)) 7 a1 (Go.bits .and .i64 a2 7) t147 t148 _ A21.out).mono ?_); rintro e w' ⟨rfl, ⟨nd, rfl⟩⟩; refine ⟨_, rfl, ?_⟩) | ((with_reducible refine gate_callee (f := 11) rfl ?_); refine goesL_ (some 122) rfl rfl Try.func11 (by kernel_rfl) rfl #[.int .i64 (wrap64 ((Go.bits .and .i64 a0 15) + 1)), .int .i64 7, .int .i64 t147, .int .i64 (Go.bits .and .i64 a3 7)] rfl (by (try simp only [List.map_toArray, List.map_cons, List.map_nil]); first | done | rfl | (simp only [List.length_drop, List.length_take]; rfl)) ?_; (with_reducible refine (word_Do.calls kj8 (wrap64 ((Go.bits .and .i64 a0 15) + 1)) 7 t147 (Go.bits .and .i64 a3 7) t149 t150 _ A22.out).mono ?_); rintro e w' ⟨rfl, ⟨nd, rfl⟩⟩; refine ⟨_, rfl, ?_⟩) | ((with_reducible refine gate_callee (f := 11) rfl ?_); refine goesL_ (some 131) rfl rfl Try.func11 (by kernel_rfl) rfl #[.int .i64 (wrap64 ((Go.bits .and .i64 a0 15) + 1)), .int .i64 7, .int .i64 a1, .int .i64 (wrap64 ((Go.bits .and .i64 a2 7) + (Go.bits .and .i64 a3 7)))] rfl (by (try simp only [List.map_toArray, List.map_cons, List.map_nil]); first | done | rfl | (simp only [List.length_drop, List.length_take]; rfl)) ?_; (with_reducible refine (word_Do.calls kj8 (wrap64 ((Go.bits .and .i64 a0 15) + 1)) 7 a1 (wrap64 ((Go.bits .and .i64 a2 7) + (Go.bits .and .i64 a3 7))) t151 t152 _ A23.out).mono ?_); rintro e w' ⟨rfl, ⟨nd, rfl⟩⟩; refine ⟨_, rfl, ?_⟩))
            go_ret
            exact ⟨by first | rfl | (simp; done) | (simp [*]; done), by repeat (first | exact Drawn0.refl _ | apply Drawn0.step)⟩

/-- THE ONE PURE STATEMENT of augurylaw1_WordShifts: yours. -/
def augurylaw1_WordShifts.Pure : Prop := ∀ (a0 : Int) (a1 : Int) (a2 : Int) (a3 : Int), (Lit.int .i64 a0).wf = true → (Lit.int .i64 a1).wf = true → (Lit.int .i64 a2).wf = true → (Lit.int .i64 a3).wf = true → ∃ k, augurylaw1_WordShifts.f k a0 a1 a2 a3 = some true
theorem augurylaw1_WordShifts.walk (P : augurylaw1_WordShifts.Pure) (a0 : Int) (a1 : Int) (a2 : Int) (a3 : Int) (w : World) (w0 : (Lit.int .i64 a0).wf = true) (w1 : (Lit.int .i64 a1).wf = true) (w2 : (Lit.int .i64 a2).wf = true) (w3 : (Lit.int .i64 a3).wf = true) :
    Calls Try.prog 6 #[.int .i64 a0, .int .i64 a1, .int .i64 a2, .int .i64 a3] w fun e w' => e = .returned (.bool true) ∧ Below w.heap.size w w' := by
  obtain ⟨k, h⟩ := P a0 a1 a2 a3 w0 w1 w2 w3
  refine (augurylaw1_WordShifts.calls k a0 a1 a2 a3 true w h).mono ?_
  rintro e w' ⟨rfl, hd⟩
  exact ⟨rfl, hd.below⟩

end Go.Proofs.Ytogihgkicpbafaa.PWordShifts
