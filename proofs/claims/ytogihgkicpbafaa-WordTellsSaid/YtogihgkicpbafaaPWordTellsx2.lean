-- PRINTED BY print.sh 35421559b90ae4d0a3588c463048766b98c2df88dd9212a6774a882060cdf62d: not written by this session
import Derived.Test.YtogihgkicpbafaaPWordTellsx0
import Derived.Test.YtogihgkicpbafaaPWordTellsx1
namespace Go.Proofs.Ytogihgkicpbafaa.PWordTells
open Go.RowKit Go.Proofs.YtogihgkicpbafaaW.PrintWords Go.Proofs.YtogihgkicpbafaaW.PrintLast Go.Proofs.YtogihgkicpbafaaW.PrintMore
attribute [local go_sem] max2_int min2_int max_two min_two max_three min_three max_four min_four   -- for this text's walks alone
set_option linter.unusedVariables false
set_option linter.unusedSimpArgs false

/-! ### auguryref1_Do: function 15 -/
def auguryref1_Do.f (a0 : Int) (a1 : Int) (a2 : Int) (a3 : Int) : Option (Int × Bool) := (auguryref1_Size.f a0).bind fun t131 => (if t131 = 0 then (some (0, false)) else ((auguryref1_Mask.f a0 a2).bind fun t132 => ((auguryref1_Mask.f a0 a3).bind fun t133 => (if a1 = 1 then ((auguryref1_Mask.f a0 (wrap64 (t132 + t133))).bind fun t134 => (some (t134, true))) else (if a1 = 2 then ((auguryref1_Mask.f a0 (wrap64 (t132 - t133))).bind fun t135 => (some (t135, true))) else (if a1 = 3 then (some (Go.bits .and .i64 t132 t133, true)) else (if a1 = 4 then (some (Go.bits .or .i64 t132 t133, true)) else (if a1 = 5 then (some (Go.bits .xor .i64 t132 t133, true)) else (if a1 = 6 then (if t133 ≥ a0 then (some (0, true)) else (if 0 ≤ (IntKind.u64.wrap (t133)) then ((auguryref1_Mask.f a0 (shl .i64 t132 (IntKind.u64.wrap (t133)))).bind fun t136 => (some (t136, true))) else (none))) else (if a1 = 7 then (if t133 ≥ a0 then (some (0, true)) else (if 0 ≤ (IntKind.u64.wrap (t133)) then (some (shr .i64 t132 (IntKind.u64.wrap (t133)), true)) else (none))) else (if a1 = 8 then ((auguryref1_Mask.f a0 (wrap64 (t132 * t133))).bind fun t137 => (some (t137, true))) else (if a1 = 9 then ((auguryref1_truth.f (decide (t132 < t133))).bind fun t138 => (some (t138, true))) else (if a1 = 10 then ((auguryref1_truth.f (t132 == t133)).bind fun t139 => (some (t139, true))) else (some (0, false)))))))))))))))
set_option maxHeartbeats 8000000 in
set_option maxRecDepth 100000 in
theorem auguryref1_Do.calls (a0 : Int) (a1 : Int) (a2 : Int) (a3 : Int) (r1 : Int) (r2 : Bool) (w : World) (h : auguryref1_Do.f a0 a1 a2 a3 = some (r1, r2)) :
    Calls Try.prog 15 #[.int .i64 a0, .int .i64 a1, .int .i64 a2, .int .i64 a3] w fun e w' => e = .returned (.tuple #[.int .i64 r1, .bool r2]) ∧ Drawn0 w w' := by
  have H : ((auguryref1_Size.f a0).bind fun t131 => (if t131 = 0 then (some (0, false)) else ((auguryref1_Mask.f a0 a2).bind fun t132 => ((auguryref1_Mask.f a0 a3).bind fun t133 => (if a1 = 1 then ((auguryref1_Mask.f a0 (wrap64 (t132 + t133))).bind fun t134 => (some (t134, true))) else (if a1 = 2 then ((auguryref1_Mask.f a0 (wrap64 (t132 - t133))).bind fun t135 => (some (t135, true))) else (if a1 = 3 then (some (Go.bits .and .i64 t132 t133, true)) else (if a1 = 4 then (some (Go.bits .or .i64 t132 t133, true)) else (if a1 = 5 then (some (Go.bits .xor .i64 t132 t133, true)) else (if a1 = 6 then (if t133 ≥ a0 then (some (0, true)) else (if 0 ≤ (IntKind.u64.wrap (t133)) then ((auguryref1_Mask.f a0 (shl .i64 t132 (IntKind.u64.wrap (t133)))).bind fun t136 => (some (t136, true))) else (none))) else (if a1 = 7 then (if t133 ≥ a0 then (some (0, true)) else (if 0 ≤ (IntKind.u64.wrap (t133)) then (some (shr .i64 t132 (IntKind.u64.wrap (t133)), true)) else (none))) else (if a1 = 8 then ((auguryref1_Mask.f a0 (wrap64 (t132 * t133))).bind fun t137 => (some (t137, true))) else (if a1 = 9 then ((auguryref1_truth.f (decide (t132 < t133))).bind fun t138 => (some (t138, true))) else (if a1 = 10 then ((auguryref1_truth.f (t132 == t133)).bind fun t139 => (some (t139, true))) else (some (0, false)))))))))))))))) = some (r1, r2) := h
  clear h
  replace H := Option.bind_eq_some_iff.mp H
  obtain ⟨t131, A50, H⟩ := H
  replace H : (if t131 = 0 then (some (0, false)) else ((auguryref1_Mask.f a0 a2).bind fun t132 => ((auguryref1_Mask.f a0 a3).bind fun t133 => (if a1 = 1 then ((auguryref1_Mask.f a0 (wrap64 (t132 + t133))).bind fun t134 => (some (t134, true))) else (if a1 = 2 then ((auguryref1_Mask.f a0 (wrap64 (t132 - t133))).bind fun t135 => (some (t135, true))) else (if a1 = 3 then (some (Go.bits .and .i64 t132 t133, true)) else (if a1 = 4 then (some (Go.bits .or .i64 t132 t133, true)) else (if a1 = 5 then (some (Go.bits .xor .i64 t132 t133, true)) else (if a1 = 6 then (if t133 ≥ a0 then (some (0, true)) else (if 0 ≤ (IntKind.u64.wrap (t133)) then ((auguryref1_Mask.f a0 (shl .i64 t132 (IntKind.u64.wrap (t133)))).bind fun t136 => (some (t136, true))) else (none))) else (if a1 = 7 then (if t133 ≥ a0 then (some (0, true)) else (if 0 ≤ (IntKind.u64.wrap (t133)) then (some (shr .i64 t132 (IntKind.u64.wrap (t133)), true)) else (none))) else (if a1 = 8 then ((auguryref1_Mask.f a0 (wrap64 (t132 * t133))).bind fun t137 => (some (t137, true))) else (if a1 = 9 then ((auguryref1_truth.f (decide (t132 < t133))).bind fun t138 => (some (t138, true))) else (if a1 = 10 then ((auguryref1_truth.f (t132 == t133)).bind fun t139 => (some (t139, true))) else (some (0, false))))))))))))))) = some (r1, r2) := H
  have A5 := Aside0.mk A50
  clear A50
  by_cases c6 : t131 = 0
  · rw [if_pos c6] at H
    have c6b0 : (t131 == 0) = true := beq_iff_eq.mpr c6
    have c6b1 : (t131 != 0) = false := bne_eq_false_iff_eq.mpr c6
    clear c6
    simp only [Option.some.injEq, Prod.mk.injEq] at H
    obtain ⟨rfl, rfl⟩ := H
    go_enter Try.func15, Try.ntmps15
    go_wp2_with (first | ((with_reducible refine gate_callee (f := 17) rfl ?_); refine goesL_ (some 11) rfl rfl Try.func17 (by kernel_rfl) rfl #[.int .i64 a0] rfl (by (try simp only [List.map_toArray, List.map_cons, List.map_nil]); first | done | rfl | (simp only [List.length_drop, List.length_take]; rfl)) ?_; (with_reducible refine (auguryref1_Size.calls a0 t131 _ A5.out).mono ?_); rintro e w' ⟨rfl, ⟨nd, rfl⟩⟩; refine ⟨_, rfl, ?_⟩))
    go_ret2
    exact ⟨by first | rfl | (simp; done) | (simp [*]; done), by repeat (first | exact Drawn0.refl _ | apply Drawn0.step)⟩
  · rw [if_neg c6] at H
    have c6b0 : (t131 == 0) = false := beq_eq_false_iff_ne.mpr c6
    have c6b1 : (t131 != 0) = true := bne_iff_ne.mpr c6
    replace H := Option.bind_eq_some_iff.mp H
    obtain ⟨t132, A70, H⟩ := H
    replace H : ((auguryref1_Mask.f a0 a3).bind fun t133 => (if a1 = 1 then ((auguryref1_Mask.f a0 (wrap64 (t132 + t133))).bind fun t134 => (some (t134, true))) else (if a1 = 2 then ((auguryref1_Mask.f a0 (wrap64 (t132 - t133))).bind fun t135 => (some (t135, true))) else (if a1 = 3 then (some (Go.bits .and .i64 t132 t133, true)) else (if a1 = 4 then (some (Go.bits .or .i64 t132 t133, true)) else (if a1 = 5 then (some (Go.bits .xor .i64 t132 t133, true)) else (if a1 = 6 then (if t133 ≥ a0 then (some (0, true)) else (if 0 ≤ (IntKind.u64.wrap (t133)) then ((auguryref1_Mask.f a0 (shl .i64 t132 (IntKind.u64.wrap (t133)))).bind fun t136 => (some (t136, true))) else (none))) else (if a1 = 7 then (if t133 ≥ a0 then (some (0, true)) else (if 0 ≤ (IntKind.u64.wrap (t133)) then (some (shr .i64 t132 (IntKind.u64.wrap (t133)), true)) else (none))) else (if a1 = 8 then ((auguryref1_Mask.f a0 (wrap64 (t132 * t133))).bind fun t137 => (some (t137, true))) else (if a1 = 9 then ((auguryref1_truth.f (decide (t132 < t133))).bind fun t138 => (some (t138, true))) else (if a1 = 10 then ((auguryref1_truth.f (t132 == t133)).bind fun t139 => (some (t139, true))) else (some (0, false))))))))))))) = some (r1, r2) := H
    have A7 := Aside0.mk A70
    clear A70
    replace H := Option.bind_eq_some_iff.mp H
    obtain ⟨t133, A80, H⟩ := H
    replace H : (if a1 = 1 then ((auguryref1_Mask.f a0 (wrap64 (t132 + t133))).bind fun t134 => (some (t134, true))) else (if a1 = 2 then ((auguryref1_Mask.f a0 (wrap64 (t132 - t133))).bind fun t135 => (some (t135, true))) else (if a1 = 3 then (some (Go.bits .and .i64 t132 t133, true)) else (if a1 = 4 then (some (Go.bits .or .i64 t132 t133, true)) else (if a1 = 5 then (some (Go.bits .xor .i64 t132 t133, true)) else (if a1 = 6 then (if t133 ≥ a0 then (some (0, true)) else (if 0 ≤ (IntKind.u64.wrap (t133)) then ((auguryref1_Mask.f a0 (shl .i64 t132 (IntKind.u64.wrap (t133)))).bind fun t136 => (some (t136, true))) else (none))) else (if a1 = 7 then (if t133 ≥ a0 then (some (0, true)) else (if 0 ≤ (IntKind.u64.wrap (t133)) then (some (shr .i64 t132 (IntKind.u64.wrap (t133)), true)) else (none))) else (if a1 = 8 then ((auguryref1_Mask.f a0 (wrap64 (t132 * t133))).bind fun t137 => (some (t137, true))) else (if a1 = 9 then ((auguryref1_truth.f (decide (t132 < t133))).bind fun t138 => (some (t138, true))) else (if a1 = 10 then ((auguryref1_truth.f (t132 == t133)).bind fun t139 => (some (t139, true))) else (some (0, false)))))))))))) = some (r1, r2) := H
    have A8 := Aside0.mk A80
    clear A80
    by_cases c9 : a1 = 1
    · rw [if_pos c9] at H
      have c9b0 : (a1 == 1) = true := beq_iff_eq.mpr c9
      have c9b1 : (a1 != 1) = false := bne_eq_false_iff_eq.mpr c9
      clear c9
      replace H := Option.bind_eq_some_iff.mp H
      obtain ⟨t134, A100, H⟩ := H
      replace H : (some (t134, true)) = some (r1, r2) := H
      have A10 := Aside0.mk A100
      clear A100
      simp only [Option.some.injEq, Prod.mk.injEq] at H
      obtain ⟨rfl, rfl⟩ := H
      go_enter Try.func15, Try.ntmps15
      go_wp2_with (first | ((with_reducible refine gate_callee (f := 17) rfl ?_); refine goesL_ (some 11) rfl rfl Try.func17 (by kernel_rfl) rfl #[.int .i64 a0] rfl (by (try simp only [List.map_toArray, List.map_cons, List.map_nil]); first | done | rfl | (simp only [List.length_drop, List.length_take]; rfl)) ?_; (with_reducible refine (auguryref1_Size.calls a0 t131 _ A5.out).mono ?_); rintro e w' ⟨rfl, ⟨nd, rfl⟩⟩; refine ⟨_, rfl, ?_⟩) | ((with_reducible refine gate_callee (f := 16) rfl ?_); refine goesL_ (some 15) rfl rfl Try.func16 (by kernel_rfl) rfl #[.int .i64 a0, .int .i64 a2] rfl (by (try simp only [List.map_toArray, List.map_cons, List.map_nil]); first | done | rfl | (simp only [List.length_drop, List.length_take]; rfl)) ?_; (with_reducible refine (auguryref1_Mask.calls a0 a2 t132 _ A7.out).mono ?_); rintro e w' ⟨rfl, ⟨nd, rfl⟩⟩; refine ⟨_, rfl, ?_⟩) | ((with_reducible refine gate_callee (f := 16) rfl ?_); refine goesL_ (some 18) rfl rfl Try.func16 (by kernel_rfl) rfl #[.int .i64 a0, .int .i64 a3] rfl (by (try simp only [List.map_toArray, List.map_cons, List.map_nil]); first | done | rfl | (simp only [List.length_drop, List.length_take]; rfl)) ?_; (with_reducible refine (auguryref1_Mask.calls a0 a3 t133 _ A8.out).mono ?_); rintro e w' ⟨rfl, ⟨nd, rfl⟩⟩; refine ⟨_, rfl, ?_⟩) | ((with_reducible refine gate_callee (f := 16) rfl ?_); refine goesL_ (some 26) rfl rfl Try.func16 (by kernel_rfl) rfl #[.int .i64 a0, .int .i64 (wrap64 (t132 + t133))] rfl (by (try simp only [List.map_toArray, List.map_cons, List.map_nil]); first | done | rfl | (simp only [List.length_drop, List.length_take]; rfl)) ?_; (with_reducible refine (auguryref1_Mask.calls a0 (wrap64 (t132 + t133)) t134 _ A10.out).mono ?_); rintro e w' ⟨rfl, ⟨nd, rfl⟩⟩; refine ⟨_, rfl, ?_⟩))
      go_ret2
      exact ⟨by first | rfl | (simp; done) | (simp [*]; done), by repeat (first | exact Drawn0.refl _ | apply Drawn0.step)⟩
    · rw [if_neg c9] at H
      have c9b0 : (a1 == 1) = false := beq_eq_false_iff_ne.mpr c9
      have c9b1 : (a1 != 1) = true := bne_iff_ne.mpr c9
      by_cases c11 : a1 = 2
      · rw [if_pos c11] at H
        have c11b0 : (a1 == 2) = true := beq_iff_eq.mpr c11
        have c11b1 : (a1 != 2) = false := bne_eq_false_iff_eq.mpr c11
        clear c11
        replace H := Option.bind_eq_some_iff.mp H
        obtain ⟨t135, A120, H⟩ := H
        replace H : (some (t135, true)) = some (r1, r2) := H
        have A12 := Aside0.mk A120
        clear A120
        simp only [Option.some.injEq, Prod.mk.injEq] at H
        obtain ⟨rfl, rfl⟩ := H
        go_enter Try.func15, Try.ntmps15
        go_wp2_with (first | ((with_reducible refine gate_callee (f := 17) rfl ?_); refine goesL_ (some 11) rfl rfl Try.func17 (by kernel_rfl) rfl #[.int .i64 a0] rfl (by (try simp only [List.map_toArray, List.map_cons, List.map_nil]); first | done | rfl | (simp only [List.length_drop, List.length_take]; rfl)) ?_; (with_reducible refine (auguryref1_Size.calls a0 t131 _ A5.out).mono ?_); rintro e w' ⟨rfl, ⟨nd, rfl⟩⟩; refine ⟨_, rfl, ?_⟩) | ((with_reducible refine gate_callee (f := 16) rfl ?_); refine goesL_ (some 15) rfl rfl Try.func16 (by kernel_rfl) rfl #[.int .i64 a0, .int .i64 a2] rfl (by (try simp only [List.map_toArray, List.map_cons, List.map_nil]); first | done | rfl | (simp only [List.length_drop, List.length_take]; rfl)) ?_; (with_reducible refine (auguryref1_Mask.calls a0 a2 t132 _ A7.out).mono ?_); rintro e w' ⟨rfl, ⟨nd, rfl⟩⟩; refine ⟨_, rfl, ?_⟩) | ((with_reducible refine gate_callee (f := 16) rfl ?_); refine goesL_ (some 18) rfl rfl Try.func16 (by kernel_rfl) rfl #[.int .i64 a0, .int .i64 a3] rfl (by (try simp only [List.map_toArray, List.map_cons, List.map_nil]); first | done | rfl | (simp only [List.length_drop, List.length_take]; rfl)) ?_; (with_reducible refine (auguryref1_Mask.calls a0 a3 t133 _ A8.out).mono ?_); rintro e w' ⟨rfl, ⟨nd, rfl⟩⟩; refine ⟨_, rfl, ?_⟩) | ((with_reducible refine gate_callee (f := 16) rfl ?_); refine goesL_ (some 33) rfl rfl Try.func16 (by kernel_rfl) rfl #[.int .i64 a0, .int .i64 (wrap64 (t132 - t133))] rfl (by (try simp only [List.map_toArray, List.map_cons, List.map_nil]); first | done | rfl | (simp only [List.length_drop, List.length_take]; rfl)) ?_; (with_reducible refine (auguryref1_Mask.calls a0 (wrap64 (t132 - t133)) t135 _ A12.out).mono ?_); rintro e w' ⟨rfl, ⟨nd, rfl⟩⟩; refine ⟨_, rfl, ?_⟩))
        go_ret2
        exact ⟨by first | rfl | (simp; done) | (simp [*]; done), by repeat (first | exact Drawn0.refl _ | apply Drawn0.step)⟩
      · rw [if_neg c11] at H
        have c11b0 : (a1 == 2) = false := beq_eq_false_iff_ne.mpr c11
        have c11b1 : (a1 != 2) = true := bne_iff_ne.mpr c11
        by_cases c13 : a1 = 3
        · rw [if_pos c13] at H
          have c13b0 : (a1 == 3) = true := beq_iff_eq.mpr c13
          have c13b1 : (a1 != 3) = false := bne_eq_false_iff_eq.mpr c13
          clear c13
          simp only [Option.some.injEq, Prod.mk.injEq] at H
          obtain ⟨rfl, rfl⟩ := H
          go_enter Try.func15, Try.ntmps15
          go_wp2_with (first | ((with_reducible refine gate_callee (f := 17) rfl ?_); refine goesL_ (some 11) rfl rfl Try.func17 (by kernel_rfl) rfl #[.int .i64 a0] rfl (by (try simp only [List.map_toArray, List.map_cons, List.map_nil]); first | done | rfl | (simp only [List.length_drop, List.length_take]; rfl)) ?_; (with_reducible refine (auguryref1_Size.calls a0 t131 _ A5.out).mono ?_); rintro e w' ⟨rfl, ⟨nd, rfl⟩⟩; refine ⟨_, rfl, ?_⟩) | ((with_reducible refine gate_callee (f := 16) rfl ?_); refine goesL_ (some 15) rfl rfl Try.func16 (by kernel_rfl) rfl #[.int .i64 a0, .int .i64 a2] rfl (by (try simp only [List.map_toArray, List.map_cons, List.map_nil]); first | done | rfl | (simp only [List.length_drop, List.length_take]; rfl)) ?_; (with_reducible refine (auguryref1_Mask.calls a0 a2 t132 _ A7.out).mono ?_); rintro e w' ⟨rfl, ⟨nd, rfl⟩⟩; refine ⟨_, rfl, ?_⟩) | ((with_reducible refine gate_callee (f := 16) rfl ?_); refine goesL_ (some 18) rfl rfl Try.func16 (by kernel_rfl) rfl #[.int .i64 a0, .int .i64 a3] rfl (by (try simp only [List.map_toArray, List.map_cons, List.map_nil]); first | done | rfl | (simp only [List.length_drop, List.length_take]; rfl)) ?_; (with_reducible refine (auguryref1_Mask.calls a0 a3 t133 _ A8.out).mono ?_); rintro e w' ⟨rfl, ⟨nd, rfl⟩⟩; refine ⟨_, rfl, ?_⟩))
          go_ret2
          exact ⟨by first | rfl | (simp; done) | (simp [*]; done), by repeat (first | exact Drawn0.refl _ | apply Drawn0.step)⟩
        · rw [if_neg c13] at H
          have c13b0 : (a1 == 3) = false := beq_eq_false_iff_ne.mpr c13
          have c13b1 : (a1 != 3) = true := bne_iff_ne.mpr c13
          by_cases c14 : a1 = 4
          · rw [if_pos c14] at H
            have c14b0 : (a1 == 4) = true := beq_iff_eq.mpr c14
            have c14b1 : (a1 != 4) = false := bne_eq_false_iff_eq.mpr c14
            clear c14
            simp only [Option.some.injEq, Prod.mk.injEq] at H
            obtain ⟨rfl, rfl⟩ := H
            go_enter Try.func15, Try.ntmps15
            go_wp2_with (first | ((with_reducible refine gate_callee (f := 17) rfl ?_); refine goesL_ (some 11) rfl rfl Try.func17 (by kernel_rfl) rfl #[.int .i64 a0] rfl (by (try simp only [List.map_toArray, List.map_cons, List.map_nil]); first | done | rfl | (simp only [List.length_drop, List.length_take]; rfl)) ?_; (with_reducible refine (auguryref1_Size.calls a0 t131 _ A5.out).mono ?_); rintro e w' ⟨rfl, ⟨nd, rfl⟩⟩; refine ⟨_, rfl, ?_⟩) | ((with_reducible refine gate_callee (f := 16) rfl ?_); refine goesL_ (some 15) rfl rfl Try.func16 (by kernel_rfl) rfl #[.int .i64 a0, .int .i64 a2] rfl (by (try simp only [List.map_toArray, List.map_cons, List.map_nil]); first | done | rfl | (simp only [List.length_drop, List.length_take]; rfl)) ?_; (with_reducible refine (auguryref1_Mask.calls a0 a2 t132 _ A7.out).mono ?_); rintro e w' ⟨rfl, ⟨nd, rfl⟩⟩; refine ⟨_, rfl, ?_⟩) | ((with_reducible refine gate_callee (f := 16) rfl ?_); refine goesL_ (some 18) rfl rfl Try.func16 (by kernel_rfl) rfl #[.int .i64 a0, .int .i64 a3] rfl (by (try simp only [List.map_toArray, List.map_cons, List.map_nil]); first | done | rfl | (simp only [List.length_drop, List.length_take]; rfl)) ?_; (with_reducible refine (auguryref1_Mask.calls a0 a3 t133 _ A8.out).mono ?_); rintro e w' ⟨rfl, ⟨nd, rfl⟩⟩; refine ⟨_, rfl, ?_⟩))
            go_ret2
            exact ⟨by first | rfl | (simp; done) | (simp [*]; done), by repeat (first | exact Drawn0.refl _ | apply Drawn0.step)⟩
          · rw [if_neg c14] at H
            have c14b0 : (a1 == 4) = false := beq_eq_false_iff_ne.mpr c14
            have c14b1 : (a1 != 4) = true := bne_iff_ne.mpr c14
            by_cases c15 : a1 = 5
            · rw [if_pos c15] at H
              have c15b0 : (a1 == 5) = true := beq_iff_eq.mpr c15
              have c15b1 : (a1 != 5) = false := bne_eq_false_iff_eq.mpr c15
              clear c15
              simp only [Option.some.injEq, Prod.mk.injEq] at H
              obtain ⟨rfl, rfl⟩ := H
              go_enter Try.func15, Try.ntmps15
              go_wp2_with (first | ((with_reducible refine gate_callee (f := 17) rfl ?_); refine goesL_ (some 11) rfl rfl Try.func17 (by kernel_rfl) rfl #[.int .i64 a0] rfl (by (try simp only [List.map_toArray, List.map_cons, List.map_nil]); first | done | rfl | (simp only [List.length_drop, List.length_take]; rfl)) ?_; (with_reducible refine (auguryref1_Size.calls a0 t131 _ A5.out).mono ?_); rintro e w' ⟨rfl, ⟨nd, rfl⟩⟩; refine ⟨_, rfl, ?_⟩) | ((with_reducible refine gate_callee (f := 16) rfl ?_); refine goesL_ (some 15) rfl rfl Try.func16 (by kernel_rfl) rfl #[.int .i64 a0, .int .i64 a2] rfl (by (try simp only [List.map_toArray, List.map_cons, List.map_nil]); first | done | rfl | (simp only [List.length_drop, List.length_take]; rfl)) ?_; (with_reducible refine (auguryref1_Mask.calls a0 a2 t132 _ A7.out).mono ?_); rintro e w' ⟨rfl, ⟨nd, rfl⟩⟩; refine ⟨_, rfl, ?_⟩) | ((with_reducible refine gate_callee (f := 16) rfl ?_); refine goesL_ (some 18) rfl rfl Try.func16 (by kernel_rfl) rfl #[.int .i64 a0, .int .i64 a3] rfl (by (try simp only [List.map_toArray, List.map_cons, List.map_nil]); first | done | rfl | (simp only [List.length_drop, List.length_take]; rfl)) ?_; (with_reducible refine (auguryref1_Mask.calls a0 a3 t133 _ A8.out).mono ?_); rintro e w' ⟨rfl, ⟨nd, rfl⟩⟩; refine ⟨_, rfl, ?_⟩))
              go_ret2
              exact ⟨by first | rfl | (simp; done) | (simp [*]; done), by repeat (first | exact Drawn0.refl _ | apply Drawn0.step)⟩
            · rw [if_neg c15] at H
              have c15b0 : (a1 == 5) = false := beq_eq_false_iff_ne.mpr c15
              have c15b1 : (a1 != 5) = true := bne_iff_ne.mpr c15
              by_cases c16 : a1 = 6
              · rw [if_pos c16] at H
                have c16b0 : (a1 == 6) = true := beq_iff_eq.mpr c16
                have c16b1 : (a1 != 6) = false := bne_eq_false_iff_eq.mpr c16
                clear c16
                by_cases c17 : t133 ≥ a0
                · rw [if_pos c17] at H
                  have c17b0 : decide (a0 ≤ t133) = true := decide_eq_true c17
                  clear c17
                  simp only [Option.some.injEq, Prod.mk.injEq] at H
                  obtain ⟨rfl, rfl⟩ := H
                  go_enter Try.func15, Try.ntmps15
                  go_wp2_with (first | ((with_reducible refine gate_callee (f := 17) rfl ?_); refine goesL_ (some 11) rfl rfl Try.func17 (by kernel_rfl) rfl #[.int .i64 a0] rfl (by (try simp only [List.map_toArray, List.map_cons, List.map_nil]); first | done | rfl | (simp only [List.length_drop, List.length_take]; rfl)) ?_; (with_reducible refine (auguryref1_Size.calls a0 t131 _ A5.out).mono ?_); rintro e w' ⟨rfl, ⟨nd, rfl⟩⟩; refine ⟨_, rfl, ?_⟩) | ((with_reducible refine gate_callee (f := 16) rfl ?_); refine goesL_ (some 15) rfl rfl Try.func16 (by kernel_rfl) rfl #[.int .i64 a0, .int .i64 a2] rfl (by (try simp only [List.map_toArray, List.map_cons, List.map_nil]); first | done | rfl | (simp only [List.length_drop, List.length_take]; rfl)) ?_; (with_reducible refine (auguryref1_Mask.calls a0 a2 t132 _ A7.out).mono ?_); rintro e w' ⟨rfl, ⟨nd, rfl⟩⟩; refine ⟨_, rfl, ?_⟩) | ((with_reducible refine gate_callee (f := 16) rfl ?_); refine goesL_ (some 18) rfl rfl Try.func16 (by kernel_rfl) rfl #[.int .i64 a0, .int .i64 a3] rfl (by (try simp only [List.map_toArray, List.map_cons, List.map_nil]); first | done | rfl | (simp only [List.length_drop, List.length_take]; rfl)) ?_; (with_reducible refine (auguryref1_Mask.calls a0 a3 t133 _ A8.out).mono ?_); rintro e w' ⟨rfl, ⟨nd, rfl⟩⟩; refine ⟨_, rfl, ?_⟩))
                  go_ret2
                  exact ⟨by first | rfl | (simp; done) | (simp [*]; done), by repeat (first | exact Drawn0.refl _ | apply Drawn0.step)⟩
                · rw [if_neg c17] at H
                  have c17b0 : decide (a0 ≤ t133) = false := decide_eq_false c17
                  clear c17
                  obtain ⟨ji18, hji18⟩ : ∃ j_ : Int, (IntKind.u64.wrap (t133)) = j_ := ⟨_, rfl⟩
                  replace H : (if 0 ≤ (ji18) then ((auguryref1_Mask.f a0 (shl .i64 t132 (ji18))).bind fun t136 => (some (t136, true))) else (none)) = some (r1, r2) := by first | (rw [hji18] at H; exact H) | (simp only [hji18] at H ⊢; exact H)
                  (try rw [hji18] at A5)
                  (try rw [hji18] at A7)
                  (try rw [hji18] at A8)
                  by_cases c19 : 0 ≤ (ji18)
                  · rw [if_pos c19] at H
                    have c19b0 := eq_true c19
                    have c19b1 : decide (0 ≤ (ji18)) = true := decide_eq_true c19
                    clear c19
                    obtain ⟨ji20, hji20⟩ : ∃ j_ : Int, (shl .i64 t132 (ji18)) = j_ := ⟨_, rfl⟩
                    replace H : ((auguryref1_Mask.f a0 (ji20)).bind fun t136 => (some (t136, true))) = some (r1, r2) := by first | (rw [hji20] at H; exact H) | (simp only [hji20] at H ⊢; exact H)
                    (try rw [hji20] at A5)
                    (try rw [hji20] at A7)
                    (try rw [hji20] at A8)
                    have hji20_ : (IntKind.i64.wrap (t132 * 2 ^ min (ji18).toNat 64)) = ji20 := hji20
                    have hji20z : (ji18) ≤ 64 → (IntKind.i64.wrap (t132 * 2 ^ (ji18).toNat)) = ji20 := shl_small hji20
                    have hji20y : (wrap64 (t132 * 2 ^ min (ji18).toNat 64)) = ji20 := (i64_w _).symm.trans hji20_
                    have hji20x : (ji18) ≤ 64 → (wrap64 (t132 * 2 ^ (ji18).toNat)) = ji20 := fun h_ => (i64_w _).symm.trans (hji20z h_)
                    replace H := Option.bind_eq_some_iff.mp H
                    obtain ⟨t136, A210, H⟩ := H
                    replace H : (some (t136, true)) = some (r1, r2) := H
                    have A21 := Aside0.mk A210
                    clear A210
                    simp only [Option.some.injEq, Prod.mk.injEq] at H
                    obtain ⟨rfl, rfl⟩ := H
                    go_enter Try.func15, Try.ntmps15
                    go_wp2_with (first | ((with_reducible refine gate_callee (f := 17) rfl ?_); refine goesL_ (some 11) rfl rfl Try.func17 (by kernel_rfl) rfl #[.int .i64 a0] rfl (by (try simp only [List.map_toArray, List.map_cons, List.map_nil]); first | done | rfl | (simp only [List.length_drop, List.length_take]; rfl)) ?_; (with_reducible refine (auguryref1_Size.calls a0 t131 _ A5.out).mono ?_); rintro e w' ⟨rfl, ⟨nd, rfl⟩⟩; refine ⟨_, rfl, ?_⟩) | ((with_reducible refine gate_callee (f := 16) rfl ?_); refine goesL_ (some 15) rfl rfl Try.func16 (by kernel_rfl) rfl #[.int .i64 a0, .int .i64 a2] rfl (by (try simp only [List.map_toArray, List.map_cons, List.map_nil]); first | done | rfl | (simp only [List.length_drop, List.length_take]; rfl)) ?_; (with_reducible refine (auguryref1_Mask.calls a0 a2 t132 _ A7.out).mono ?_); rintro e w' ⟨rfl, ⟨nd, rfl⟩⟩; refine ⟨_, rfl, ?_⟩) | ((with_reducible refine gate_callee (f := 16) rfl ?_); refine goesL_ (some 18) rfl rfl Try.func16 (by kernel_rfl) rfl #[.int .i64 a0, .int .i64 a3] rfl (by (try simp only [List.map_toArray, List.map_cons, List.map_nil]); first | done | rfl | (simp only [List.length_drop, List.length_take]; rfl)) ?_; (with_reducible refine (auguryref1_Mask.calls a0 a3 t133 _ A8.out).mono ?_); rintro e w' ⟨rfl, ⟨nd, rfl⟩⟩; refine ⟨_, rfl, ?_⟩) | ((with_reducible refine gate_callee (f := 16) rfl ?_); refine goesL_ (some 59) rfl rfl Try.func16 (by kernel_rfl) rfl #[.int .i64 a0, .int .i64 ji20] rfl (by (try simp only [List.map_toArray, List.map_cons, List.map_nil]); first | done | (simp only [hji20]; rfl) | rfl | (simp only [List.length_drop, List.length_take]; rfl)) ?_; (with_reducible refine (auguryref1_Mask.calls a0 ji20 t136 _ A21.out).mono ?_); rintro e w' ⟨rfl, ⟨nd, rfl⟩⟩; refine ⟨_, rfl, ?_⟩))
                    go_ret2
                    exact ⟨by first | rfl | (simp; done) | (simp only [← hji18, ← hji20] <;> (first | rfl | simp)) | (simp [*]; done), by repeat (first | exact Drawn0.refl _ | apply Drawn0.step)⟩
                  · rw [if_neg c19] at H
                    exact absurd H (by simp)
              · rw [if_neg c16] at H
                have c16b0 : (a1 == 6) = false := beq_eq_false_iff_ne.mpr c16
                have c16b1 : (a1 != 6) = true := bne_iff_ne.mpr c16
                by_cases c22 : a1 = 7
                · rw [if_pos c22] at H
                  have c22b0 : (a1 == 7) = true := beq_iff_eq.mpr c22
                  have c22b1 : (a1 != 7) = false := bne_eq_false_iff_eq.mpr c22
                  clear c22
                  by_cases c23 : t133 ≥ a0
                  · rw [if_pos c23] at H
                    have c23b0 : decide (a0 ≤ t133) = true := decide_eq_true c23
                    clear c23
                    simp only [Option.some.injEq, Prod.mk.injEq] at H
                    obtain ⟨rfl, rfl⟩ := H
                    go_enter Try.func15, Try.ntmps15
                    go_wp2_with (first | ((with_reducible refine gate_callee (f := 17) rfl ?_); refine goesL_ (some 11) rfl rfl Try.func17 (by kernel_rfl) rfl #[.int .i64 a0] rfl (by (try simp only [List.map_toArray, List.map_cons, List.map_nil]); first | done | rfl | (simp only [List.length_drop, List.length_take]; rfl)) ?_; (with_reducible refine (auguryref1_Size.calls a0 t131 _ A5.out).mono ?_); rintro e w' ⟨rfl, ⟨nd, rfl⟩⟩; refine ⟨_, rfl, ?_⟩) | ((with_reducible refine gate_callee (f := 16) rfl ?_); refine goesL_ (some 15) rfl rfl Try.func16 (by kernel_rfl) rfl #[.int .i64 a0, .int .i64 a2] rfl (by (try simp only [List.map_toArray, List.map_cons, List.map_nil]); first | done | rfl | (simp only [List.length_drop, List.length_take]; rfl)) ?_; (with_reducible refine (auguryref1_Mask.calls a0 a2 t132 _ A7.out).mono ?_); rintro e w' ⟨rfl, ⟨nd, rfl⟩⟩; refine ⟨_, rfl, ?_⟩) | ((with_reducible refine gate_callee (f := 16) rfl ?_); refine goesL_ (some 18) rfl rfl Try.func16 (by kernel_rfl) rfl #[.int .i64 a0, .int .i64 a3] rfl (by (try simp only [List.map_toArray, List.map_cons, List.map_nil]); first | done | rfl | (simp only [List.length_drop, List.length_take]; rfl)) ?_; (with_reducible refine (auguryref1_Mask.calls a0 a3 t133 _ A8.out).mono ?_); rintro e w' ⟨rfl, ⟨nd, rfl⟩⟩; refine ⟨_, rfl, ?_⟩))
                    go_ret2
                    exact ⟨by first | rfl | (simp; done) | (simp [*]; done), by repeat (first | exact Drawn0.refl _ | apply Drawn0.step)⟩
                  · rw [if_neg c23] at H
                    have c23b0 : decide (a0 ≤ t133) = false := decide_eq_false c23
                    clear c23
                    obtain ⟨ji24, hji24⟩ : ∃ j_ : Int, (IntKind.u64.wrap (t133)) = j_ := ⟨_, rfl⟩
                    replace H : (if 0 ≤ (ji24) then (some (shr .i64 t132 (ji24), true)) else (none)) = some (r1, r2) := by first | (rw [hji24] at H; exact H) | (simp only [hji24] at H ⊢; exact H)
                    (try rw [hji24] at A5)
                    (try rw [hji24] at A7)
                    (try rw [hji24] at A8)
                    by_cases c25 : 0 ≤ (ji24)
                    · rw [if_pos c25] at H
                      have c25b0 := eq_true c25
                      have c25b1 : decide (0 ≤ (ji24)) = true := decide_eq_true c25
                      clear c25
                      obtain ⟨ji26, hji26⟩ : ∃ j_ : Int, (shr .i64 t132 (ji24)) = j_ := ⟨_, rfl⟩
                      replace H : (some (ji26, true)) = some (r1, r2) := by first | (rw [hji26] at H; exact H) | (simp only [hji26] at H ⊢; exact H)
                      (try rw [hji26] at A5)
                      (try rw [hji26] at A7)
                      (try rw [hji26] at A8)
                      have hji26_ : (t132 / 2 ^ min (ji24).toNat 64) = ji26 := hji26
                      have hji26z : (ji24) ≤ 64 → (t132 / 2 ^ (ji24).toNat) = ji26 := shr_small hji26
                      simp only [Option.some.injEq, Prod.mk.injEq] at H
                      obtain ⟨rfl, rfl⟩ := H
                      go_enter Try.func15, Try.ntmps15
                      go_wp2_with (first | ((with_reducible refine gate_callee (f := 17) rfl ?_); refine goesL_ (some 11) rfl rfl Try.func17 (by kernel_rfl) rfl #[.int .i64 a0] rfl (by (try simp only [List.map_toArray, List.map_cons, List.map_nil]); first | done | rfl | (simp only [List.length_drop, List.length_take]; rfl)) ?_; (with_reducible refine (auguryref1_Size.calls a0 t131 _ A5.out).mono ?_); rintro e w' ⟨rfl, ⟨nd, rfl⟩⟩; refine ⟨_, rfl, ?_⟩) | ((with_reducible refine gate_callee (f := 16) rfl ?_); refine goesL_ (some 15) rfl rfl Try.func16 (by kernel_rfl) rfl #[.int .i64 a0, .int .i64 a2] rfl (by (try simp only [List.map_toArray, List.map_cons, List.map_nil]); first | done | rfl | (simp only [List.length_drop, List.length_take]; rfl)) ?_; (with_reducible refine (auguryref1_Mask.calls a0 a2 t132 _ A7.out).mono ?_); rintro e w' ⟨rfl, ⟨nd, rfl⟩⟩; refine ⟨_, rfl, ?_⟩) | ((with_reducible refine gate_callee (f := 16) rfl ?_); refine goesL_ (some 18) rfl rfl Try.func16 (by kernel_rfl) rfl #[.int .i64 a0, .int .i64 a3] rfl (by (try simp only [List.map_toArray, List.map_cons, List.map_nil]); first | done | rfl | (simp only [List.length_drop, List.length_take]; rfl)) ?_; (with_reducible refine (auguryref1_Mask.calls a0 a3 t133 _ A8.out).mono ?_); rintro e w' ⟨rfl, ⟨nd, rfl⟩⟩; refine ⟨_, rfl, ?_⟩))
                      go_ret2
                      exact ⟨by first | rfl | (simp; done) | (simp only [← hji24, ← hji26] <;> (first | rfl | simp)) | (simp [*]; done), by repeat (first | exact Drawn0.refl _ | apply Drawn0.step)⟩
                    · rw [if_neg c25] at H
                      exact absurd H (by simp)
                · rw [if_neg c22] at H
                  have c22b0 : (a1 == 7) = false := beq_eq_false_iff_ne.mpr c22
                  have c22b1 : (a1 != 7) = true := bne_iff_ne.mpr c22
                  by_cases c27 : a1 = 8
                  · rw [if_pos c27] at H
                    have c27b0 : (a1 == 8) = true := beq_iff_eq.mpr c27
                    have c27b1 : (a1 != 8) = false := bne_eq_false_iff_eq.mpr c27
                    clear c27
                    replace H := Option.bind_eq_some_iff.mp H
                    obtain ⟨t137, A280, H⟩ := H
                    replace H : (some (t137, true)) = some (r1, r2) := H
                    have A28 := Aside0.mk A280
                    clear A280
                    simp only [Option.some.injEq, Prod.mk.injEq] at H
                    obtain ⟨rfl, rfl⟩ := H
                    go_enter Try.func15, Try.ntmps15
                    go_wp2_with (first | ((with_reducible refine gate_callee (f := 17) rfl ?_); refine goesL_ (some 11) rfl rfl Try.func17 (by kernel_rfl) rfl #[.int .i64 a0] rfl (by (try simp only [List.map_toArray, List.map_cons, List.map_nil]); first | done | rfl | (simp only [List.length_drop, List.length_take]; rfl)) ?_; (with_reducible refine (auguryref1_Size.calls a0 t131 _ A5.out).mono ?_); rintro e w' ⟨rfl, ⟨nd, rfl⟩⟩; refine ⟨_, rfl, ?_⟩) | ((with_reducible refine gate_callee (f := 16) rfl ?_); refine goesL_ (some 15) rfl rfl Try.func16 (by kernel_rfl) rfl #[.int .i64 a0, .int .i64 a2] rfl (by (try simp only [List.map_toArray, List.map_cons, List.map_nil]); first | done | rfl | (simp only [List.length_drop, List.length_take]; rfl)) ?_; (with_reducible refine (auguryref1_Mask.calls a0 a2 t132 _ A7.out).mono ?_); rintro e w' ⟨rfl, ⟨nd, rfl⟩⟩; refine ⟨_, rfl, ?_⟩) | ((with_reducible refine gate_callee (f := 16) rfl ?_); refine goesL_ (some 18) rfl rfl Try.func16 (by kernel_rfl) rfl #[.int .i64 a0, .int .i64 a3] rfl (by (try simp only [List.map_toArray, List.map_cons, List.map_nil]); first | done | rfl | (simp only [List.length_drop, List.length_take]; rfl)) ?_; (with_reducible refine (auguryref1_Mask.calls a0 a3 t133 _ A8.out).mono ?_); rintro e w' ⟨rfl, ⟨nd, rfl⟩⟩; refine ⟨_, rfl, ?_⟩) | ((with_reducible refine gate_callee (f := 16) rfl ?_); refine goesL_ (some 75) rfl rfl Try.func16 (by kernel_rfl) rfl #[.int .i64 a0, .int .i64 (wrap64 (t132 * t133))] rfl (by (try simp only [List.map_toArray, List.map_cons, List.map_nil]); first | done | rfl | (simp only [List.length_drop, List.length_take]; rfl)) ?_; (with_reducible refine (auguryref1_Mask.calls a0 (wrap64 (t132 * t133)) t137 _ A28.out).mono ?_); rintro e w' ⟨rfl, ⟨nd, rfl⟩⟩; refine ⟨_, rfl, ?_⟩))
                    go_ret2
                    exact ⟨by first | rfl | (simp; done) | (simp [*]; done), by repeat (first | exact Drawn0.refl _ | apply Drawn0.step)⟩
                  · rw [if_neg c27] at H
                    have c27b0 : (a1 == 8) = false := beq_eq_false_iff_ne.mpr c27
                    have c27b1 : (a1 != 8) = true := bne_iff_ne.mpr c27
                    by_cases c29 : a1 = 9
                    · rw [if_pos c29] at H
                      have c29b0 : (a1 == 9) = true := beq_iff_eq.mpr c29
                      have c29b1 : (a1 != 9) = false := bne_eq_false_iff_eq.mpr c29
                      clear c29
                      replace H := Option.bind_eq_some_iff.mp H
                      obtain ⟨t138, A300, H⟩ := H
                      replace H : (some (t138, true)) = some (r1, r2) := H
                      have A30 := Aside0.mk A300
                      clear A300
                      simp only [Option.some.injEq, Prod.mk.injEq] at H
                      obtain ⟨rfl, rfl⟩ := H
                      go_enter Try.func15, Try.ntmps15
                      go_wp2_with (first | ((with_reducible refine gate_callee (f := 17) rfl ?_); refine goesL_ (some 11) rfl rfl Try.func17 (by kernel_rfl) rfl #[.int .i64 a0] rfl (by (try simp only [List.map_toArray, List.map_cons, List.map_nil]); first | done | rfl | (simp only [List.length_drop, List.length_take]; rfl)) ?_; (with_reducible refine (auguryref1_Size.calls a0 t131 _ A5.out).mono ?_); rintro e w' ⟨rfl, ⟨nd, rfl⟩⟩; refine ⟨_, rfl, ?_⟩) | ((with_reducible refine gate_callee (f := 16) rfl ?_); refine goesL_ (some 15) rfl rfl Try.func16 (by kernel_rfl) rfl #[.int .i64 a0, .int .i64 a2] rfl (by (try simp only [List.map_toArray, List.map_cons, List.map_nil]); first | done | rfl | (simp only [List.length_drop, List.length_take]; rfl)) ?_; (with_reducible refine (auguryref1_Mask.calls a0 a2 t132 _ A7.out).mono ?_); rintro e w' ⟨rfl, ⟨nd, rfl⟩⟩; refine ⟨_, rfl, ?_⟩) | ((with_reducible refine gate_callee (f := 16) rfl ?_); refine goesL_ (some 18) rfl rfl Try.func16 (by kernel_rfl) rfl #[.int .i64 a0, .int .i64 a3] rfl (by (try simp only [List.map_toArray, List.map_cons, List.map_nil]); first | done | rfl | (simp only [List.length_drop, List.length_take]; rfl)) ?_; (with_reducible refine (auguryref1_Mask.calls a0 a3 t133 _ A8.out).mono ?_); rintro e w' ⟨rfl, ⟨nd, rfl⟩⟩; refine ⟨_, rfl, ?_⟩) | ((with_reducible refine gate_callee (f := 20) rfl ?_); refine goesL_ (some 81) rfl rfl Try.func20 (by kernel_rfl) rfl #[.bool (decide (t132 < t133))] rfl (by (try simp only [List.map_toArray, List.map_cons, List.map_nil]); first | done | rfl | (simp only [List.length_drop, List.length_take]; rfl)) ?_; (with_reducible refine (auguryref1_truth.calls (decide (t132 < t133)) t138 _ A30.out).mono ?_); rintro e w' ⟨rfl, ⟨nd, rfl⟩⟩; refine ⟨_, rfl, ?_⟩))
                      go_ret2
                      exact ⟨by first | rfl | (simp; done) | (simp [*]; done), by repeat (first | exact Drawn0.refl _ | apply Drawn0.step)⟩
                    · rw [if_neg c29] at H
                      have c29b0 : (a1 == 9) = false := beq_eq_false_iff_ne.mpr c29
                      have c29b1 : (a1 != 9) = true := bne_iff_ne.mpr c29
                      by_cases c31 : a1 = 10
                      · rw [if_pos c31] at H
                        have c31b0 : (a1 == 10) = true := beq_iff_eq.mpr c31
                        have c31b1 : (a1 != 10) = false := bne_eq_false_iff_eq.mpr c31
                        clear c31
                        replace H := Option.bind_eq_some_iff.mp H
                        obtain ⟨t139, A320, H⟩ := H
                        replace H : (some (t139, true)) = some (r1, r2) := H
                        have A32 := Aside0.mk A320
                        clear A320
                        simp only [Option.some.injEq, Prod.mk.injEq] at H
                        obtain ⟨rfl, rfl⟩ := H
                        go_enter Try.func15, Try.ntmps15
                        go_wp2_with (first | ((with_reducible refine gate_callee (f := 17) rfl ?_); refine goesL_ (some 11) rfl rfl Try.func17 (by kernel_rfl) rfl #[.int .i64 a0] rfl (by (try simp only [List.map_toArray, List.map_cons, List.map_nil]); first | done | rfl | (simp only [List.length_drop, List.length_take]; rfl)) ?_; (with_reducible refine (auguryref1_Size.calls a0 t131 _ A5.out).mono ?_); rintro e w' ⟨rfl, ⟨nd, rfl⟩⟩; refine ⟨_, rfl, ?_⟩) | ((with_reducible refine gate_callee (f := 16) rfl ?_); refine goesL_ (some 15) rfl rfl Try.func16 (by kernel_rfl) rfl #[.int .i64 a0, .int .i64 a2] rfl (by (try simp only [List.map_toArray, List.map_cons, List.map_nil]); first | done | rfl | (simp only [List.length_drop, List.length_take]; rfl)) ?_; (with_reducible refine (auguryref1_Mask.calls a0 a2 t132 _ A7.out).mono ?_); rintro e w' ⟨rfl, ⟨nd, rfl⟩⟩; refine ⟨_, rfl, ?_⟩) | ((with_reducible refine gate_callee (f := 16) rfl ?_); refine goesL_ (some 18) rfl rfl Try.func16 (by kernel_rfl) rfl #[.int .i64 a0, .int .i64 a3] rfl (by (try simp only [List.map_toArray, List.map_cons, List.map_nil]); first | done | rfl | (simp only [List.length_drop, List.length_take]; rfl)) ?_; (with_reducible refine (auguryref1_Mask.calls a0 a3 t133 _ A8.out).mono ?_); rintro e w' ⟨rfl, ⟨nd, rfl⟩⟩; refine ⟨_, rfl, ?_⟩) | ((with_reducible refine gate_callee (f := 20) rfl ?_); refine goesL_ (some 87) rfl rfl Try.func20 (by kernel_rfl) rfl #[.bool (t132 == t133)] rfl (by (try simp only [List.map_toArray, List.map_cons, List.map_nil]); first | done | rfl | (simp only [List.length_drop, List.length_take]; rfl)) ?_; (with_reducible refine (auguryref1_truth.calls (t132 == t133) t139 _ A32.out).mono ?_); rintro e w' ⟨rfl, ⟨nd, rfl⟩⟩; refine ⟨_, rfl, ?_⟩))
                        go_ret2
                        exact ⟨by first | rfl | (simp; done) | (simp [*]; done), by repeat (first | exact Drawn0.refl _ | apply Drawn0.step)⟩
                      · rw [if_neg c31] at H
                        have c31b0 : (a1 == 10) = false := beq_eq_false_iff_ne.mpr c31
                        have c31b1 : (a1 != 10) = true := bne_iff_ne.mpr c31
                        simp only [Option.some.injEq, Prod.mk.injEq] at H
                        obtain ⟨rfl, rfl⟩ := H
                        go_enter Try.func15, Try.ntmps15
                        go_wp2_with (first | ((with_reducible refine gate_callee (f := 17) rfl ?_); refine goesL_ (some 11) rfl rfl Try.func17 (by kernel_rfl) rfl #[.int .i64 a0] rfl (by (try simp only [List.map_toArray, List.map_cons, List.map_nil]); first | done | rfl | (simp only [List.length_drop, List.length_take]; rfl)) ?_; (with_reducible refine (auguryref1_Size.calls a0 t131 _ A5.out).mono ?_); rintro e w' ⟨rfl, ⟨nd, rfl⟩⟩; refine ⟨_, rfl, ?_⟩) | ((with_reducible refine gate_callee (f := 16) rfl ?_); refine goesL_ (some 15) rfl rfl Try.func16 (by kernel_rfl) rfl #[.int .i64 a0, .int .i64 a2] rfl (by (try simp only [List.map_toArray, List.map_cons, List.map_nil]); first | done | rfl | (simp only [List.length_drop, List.length_take]; rfl)) ?_; (with_reducible refine (auguryref1_Mask.calls a0 a2 t132 _ A7.out).mono ?_); rintro e w' ⟨rfl, ⟨nd, rfl⟩⟩; refine ⟨_, rfl, ?_⟩) | ((with_reducible refine gate_callee (f := 16) rfl ?_); refine goesL_ (some 18) rfl rfl Try.func16 (by kernel_rfl) rfl #[.int .i64 a0, .int .i64 a3] rfl (by (try simp only [List.map_toArray, List.map_cons, List.map_nil]); first | done | rfl | (simp only [List.length_drop, List.length_take]; rfl)) ?_; (with_reducible refine (auguryref1_Mask.calls a0 a3 t133 _ A8.out).mono ?_); rintro e w' ⟨rfl, ⟨nd, rfl⟩⟩; refine ⟨_, rfl, ?_⟩))
                        go_ret2
                        exact ⟨by first | rfl | (simp; done) | (simp [*]; done), by repeat (first | exact Drawn0.refl _ | apply Drawn0.step)⟩

/-! ### augurylaw1_WordTells: function 7 -/
mutual
def augurylaw1_WordTells.l0 : Nat → Int → Int → Int → Int → Int → Option (Bool)
  | 0, _, _, _, _, _ => none
  | k + 1, x0, x1, x2, x3, x9 => if x9 < 3 then ((word_Do.f k x0 x1 x2 x3).bind fun bt141 => ((auguryref1_Do.f x0 x1 x2 x3).bind fun bt143 => (if bt141.1 = bt143.1 then (if (bt141.2 != bt143.2) = true then (augurylaw1_WordTells.j1 k x0 x1 x2 x3 x9 true) else ((word_Mask.f x0 x2).bind fun t145 => ((auguryref1_Mask.f x0 x2).bind fun t146 => (if t145 = t146 then ((word_Size.f x0).bind fun t147 => ((auguryref1_Size.f x0).bind fun t148 => (if t147 = t148 then ((word_Ok.f x0).bind fun t149 => (if x0 ≥ 1 then (augurylaw1_WordTells.j1 k x0 x1 x2 x3 x9 (t149 != (decide (x0 ≤ 16)))) else (augurylaw1_WordTells.j1 k x0 x1 x2 x3 x9 (t149 != false)))) else (augurylaw1_WordTells.j1 k x0 x1 x2 x3 x9 true)))) else (augurylaw1_WordTells.j1 k x0 x1 x2 x3 x9 true))))) else (augurylaw1_WordTells.j1 k x0 x1 x2 x3 x9 true)))) else ((augurylaw1_awake.f k).bind fun t140 => (some t140))
def augurylaw1_WordTells.j1 : Nat → Int → Int → Int → Int → Int → Bool → Option (Bool)
  | 0, _, _, _, _, _, _ => none
  | k + 1, x0, x1, x2, x3, x9, x68 => if x68 = true then (some false) else (if x9 = 1 then (augurylaw1_WordTells.l0 k (wrap64 ((Go.bits .and .i64 x0 15) + 1)) (Int.tmod (Go.bits .and .i64 x1 255) 12) (wrap64 ((Go.bits .and .i64 x2 31) - 8)) (wrap64 ((Go.bits .and .i64 x3 31) - 8)) (wrap64 (x9 + 1))) else (augurylaw1_WordTells.l0 k (wrap64 ((Go.bits .and .i64 x0 15) + 1)) (Int.tmod (Go.bits .and .i64 x1 255) 12) x2 x3 (wrap64 (x9 + 1))))
end
def augurylaw1_WordTells.f (k : Nat) (a0 : Int) (a1 : Int) (a2 : Int) (a3 : Int) : Option (Bool) := augurylaw1_WordTells.l0 k a0 a1 a2 a3 0
theorem augurylaw1_WordTells.mono_l : ∀ k, (∀ y0 y1 y2 y3 y4, LeO (augurylaw1_WordTells.l0 k y0 y1 y2 y3 y4) (augurylaw1_WordTells.l0 (k + 1) y0 y1 y2 y3 y4)) ∧ (∀ y0 y1 y2 y3 y4 y5, LeO (augurylaw1_WordTells.j1 k y0 y1 y2 y3 y4 y5) (augurylaw1_WordTells.j1 (k + 1) y0 y1 y2 y3 y4 y5))
  | 0 => ⟨fun _ _ _ _ _ r h => by simp [augurylaw1_WordTells.l0] at h, fun _ _ _ _ _ _ r h => by simp [augurylaw1_WordTells.j1] at h⟩
  | k + 1 => by
    obtain ⟨ih0, ih1⟩ := augurylaw1_WordTells.mono_l k
    refine ⟨?_, ?_⟩
    · intro y0 y1 y2 y3 y4
      unfold augurylaw1_WordTells.l0
      repeat' first
      | (with_reducible exact ih0 _ _ _ _ _)
      | (with_reducible exact ih1 _ _ _ _ _ _)
      | (with_reducible exact augurylaw1_awake.mono _)
      | (with_reducible exact word_Do.mono _ _ _ _ _)
      | (with_reducible exact LeO.refl _)
      | (with_reducible exact LeO.none _)
      | (with_reducible refine LeO.ite ?_ ?_)
      | (with_reducible refine LeO.bind ?_ (fun _ => ?_))
      | exact ih0 _ _ _ _ _
      | exact ih1 _ _ _ _ _ _
      | exact augurylaw1_awake.mono _
      | exact word_Do.mono _ _ _ _ _
      | exact LeO.none _
      | refine LeO.ite ?_ ?_
      | refine LeO.bind ?_ (fun _ => ?_)
    · intro y0 y1 y2 y3 y4 y5
      unfold augurylaw1_WordTells.j1
      repeat' first
      | (with_reducible exact ih0 _ _ _ _ _)
      | (with_reducible exact ih1 _ _ _ _ _ _)
      | (with_reducible exact augurylaw1_awake.mono _)
      | (with_reducible exact word_Do.mono _ _ _ _ _)
      | (with_reducible exact LeO.refl _)
      | (with_reducible exact LeO.none _)
      | (with_reducible refine LeO.ite ?_ ?_)
      | (with_reducible refine LeO.bind ?_ (fun _ => ?_))
      | exact ih0 _ _ _ _ _
      | exact ih1 _ _ _ _ _ _
      | exact augurylaw1_awake.mono _
      | exact word_Do.mono _ _ _ _ _
      | exact LeO.none _
      | refine LeO.ite ?_ ?_
      | refine LeO.bind ?_ (fun _ => ?_)
theorem augurylaw1_WordTells.mono : ∀ a0 a1 a2 a3 k, LeO (augurylaw1_WordTells.f k a0 a1 a2 a3) (augurylaw1_WordTells.f (k + 1) a0 a1 a2 a3) := by
  intro a0 a1 a2 a3 k
  obtain ⟨ih0, ih1⟩ := augurylaw1_WordTells.mono_l k
  unfold augurylaw1_WordTells.f
  repeat' first
      | (with_reducible exact ih0 _ _ _ _ _)
      | (with_reducible exact ih1 _ _ _ _ _ _)
      | (with_reducible exact augurylaw1_awake.mono _)
      | (with_reducible exact word_Do.mono _ _ _ _ _)
      | (with_reducible exact LeO.refl _)
      | (with_reducible exact LeO.none _)
      | (with_reducible refine LeO.ite ?_ ?_)
      | (with_reducible refine LeO.bind ?_ (fun _ => ?_))
      | exact ih0 _ _ _ _ _
      | exact ih1 _ _ _ _ _ _
      | exact augurylaw1_awake.mono _
      | exact word_Do.mono _ _ _ _ _
      | exact LeO.none _
      | refine LeO.ite ?_ ?_
      | refine LeO.bind ?_ (fun _ => ?_)
set_option maxHeartbeats 8000000 in
set_option maxRecDepth 100000 in
theorem augurylaw1_WordTells.calls (k : Nat) (a0 : Int) (a1 : Int) (a2 : Int) (a3 : Int) (r : Bool) (w : World) (h : augurylaw1_WordTells.f k a0 a1 a2 a3 = some r) :
    Calls Try.prog 7 #[.int .i64 a0, .int .i64 a1, .int .i64 a2, .int .i64 a3] w fun e w' => e = .returned (.bool r) ∧ Drawn0 w w' := by
  have H : (augurylaw1_WordTells.l0 k a0 a1 a2 a3 0) = some r := h
  clear h
  have H' := Aside0.mk H
  clear H
  go_enter Try.func7, Try.ntmps7
  go_wp2
  go_loopg [0, 1, 2, 3, 9] k (fun kq v0 v1 v2 v3 v9 w' => ∃ (x0_1 : Int) (x1_1 : Int) (x2_1 : Int) (x3_1 : Int) (x9_1 : Int), v0 = .int .i64 x0_1 ∧ v1 = .int .i64 x1_1 ∧ v2 = .int .i64 x2_1 ∧ v3 = .int .i64 x3_1 ∧ v9 = .int .i64 x9_1 ∧ Aside0 (augurylaw1_WordTells.l0 kq x0_1 x1_1 x2_1 x3_1 x9_1 = some r) ∧ Aside0 (kq ≤ k) ∧ Drawn0 w w')
  case atStart => exact ⟨(a0), (a1), (a2), (a3), (0), (by first | rfl | (simp; done) | (simp [*]; done)), (by first | rfl | (simp; done) | (simp [*]; done)), (by first | rfl | (simp; done) | (simp [*]; done)), (by first | rfl | (simp; done) | (simp [*]; done)), (by first | rfl | (simp; done) | (simp [*]; done)), H', ⟨Nat.le_refl _⟩, by repeat (first | exact Drawn0.refl _ | apply Drawn0.step)⟩
  case round =>
    clear H'
    try clear p2
    obtain ⟨x0_1, x1_1, x2_1, x3_1, x9_1, rfl, rfl, rfl, rfl, rfl, HA, HK1, ⟨m1, rfl⟩⟩ := hrel
    cases gk with
    | zero => exact absurd HA.out (by simp [augurylaw1_WordTells.l0])
    | succ k1 =>
      have H := HA.out
      clear HA
      simp only [augurylaw1_WordTells.l0] at H
      by_cases c5 : x9_1 < 3
      · rw [if_pos c5] at H
        have c5b0 : decide (x9_1 < 3) = true := decide_eq_true c5
        clear c5
        replace H := Option.bind_eq_some_iff.mp H
        obtain ⟨⟨t141, t142⟩, A60, H⟩ := H
        replace H : ((auguryref1_Do.f x0_1 x1_1 x2_1 x3_1).bind fun bt143 => (if t141 = bt143.1 then (if (t142 != bt143.2) = true then (augurylaw1_WordTells.j1 k1 x0_1 x1_1 x2_1 x3_1 x9_1 true) else ((word_Mask.f x0_1 x2_1).bind fun t145 => ((auguryref1_Mask.f x0_1 x2_1).bind fun t146 => (if t145 = t146 then ((word_Size.f x0_1).bind fun t147 => ((auguryref1_Size.f x0_1).bind fun t148 => (if t147 = t148 then ((word_Ok.f x0_1).bind fun t149 => (if x0_1 ≥ 1 then (augurylaw1_WordTells.j1 k1 x0_1 x1_1 x2_1 x3_1 x9_1 (t149 != (decide (x0_1 ≤ 16)))) else (augurylaw1_WordTells.j1 k1 x0_1 x1_1 x2_1 x3_1 x9_1 (t149 != false)))) else (augurylaw1_WordTells.j1 k1 x0_1 x1_1 x2_1 x3_1 x9_1 true)))) else (augurylaw1_WordTells.j1 k1 x0_1 x1_1 x2_1 x3_1 x9_1 true))))) else (augurylaw1_WordTells.j1 k1 x0_1 x1_1 x2_1 x3_1 x9_1 true))) = some r := H
        have A6 := Aside0.mk A60
        clear A60
        replace H := Option.bind_eq_some_iff.mp H
        obtain ⟨⟨t143, t144⟩, A70, H⟩ := H
        replace H : (if t141 = t143 then (if (t142 != t144) = true then (augurylaw1_WordTells.j1 k1 x0_1 x1_1 x2_1 x3_1 x9_1 true) else ((word_Mask.f x0_1 x2_1).bind fun t145 => ((auguryref1_Mask.f x0_1 x2_1).bind fun t146 => (if t145 = t146 then ((word_Size.f x0_1).bind fun t147 => ((auguryref1_Size.f x0_1).bind fun t148 => (if t147 = t148 then ((word_Ok.f x0_1).bind fun t149 => (if x0_1 ≥ 1 then (augurylaw1_WordTells.j1 k1 x0_1 x1_1 x2_1 x3_1 x9_1 (t149 != (decide (x0_1 ≤ 16)))) else (augurylaw1_WordTells.j1 k1 x0_1 x1_1 x2_1 x3_1 x9_1 (t149 != false)))) else (augurylaw1_WordTells.j1 k1 x0_1 x1_1 x2_1 x3_1 x9_1 true)))) else (augurylaw1_WordTells.j1 k1 x0_1 x1_1 x2_1 x3_1 x9_1 true))))) else (augurylaw1_WordTells.j1 k1 x0_1 x1_1 x2_1 x3_1 x9_1 true)) = some r := H
        have A7 := Aside0.mk A70
        clear A70
        have HC8 := Aside0.mk H
        clear H
        go_upto_region 6 with (first | ((with_reducible refine gate_callee (f := 11) rfl ?_); refine goesL_ (some 23) rfl rfl Try.func11 (by kernel_rfl) rfl #[.int .i64 x0_1, .int .i64 x1_1, .int .i64 x2_1, .int .i64 x3_1] rfl (by (try simp only [List.map_toArray, List.map_cons, List.map_nil]); first | done | rfl | (simp only [List.length_drop, List.length_take]; rfl)) ?_; (with_reducible refine (word_Do.calls k1 x0_1 x1_1 x2_1 x3_1 t141 t142 _ A6.out).mono ?_); rintro e w' ⟨rfl, ⟨nd, rfl⟩⟩; refine ⟨_, rfl, ?_⟩) | ((with_reducible refine gate_callee (f := 15) rfl ?_); refine goesL_ (some 31) rfl rfl Try.func15 (by kernel_rfl) rfl #[.int .i64 x0_1, .int .i64 x1_1, .int .i64 x2_1, .int .i64 x3_1] rfl (by (try simp only [List.map_toArray, List.map_cons, List.map_nil]); first | done | rfl | (simp only [List.length_drop, List.length_take]; rfl)) ?_; (with_reducible refine (auguryref1_Do.calls x0_1 x1_1 x2_1 x3_1 t143 t144 _ A7.out).mono ?_); rintro e w' ⟨rfl, ⟨nd, rfl⟩⟩; refine ⟨_, rfl, ?_⟩))
        (try simp only [Act.put, List.setIfInBounds_toArray, List.set_cons_zero, List.set_cons_succ])
        go_cut [68] (fun v68 wc => ∃ (kq : Nat) (x68_7 : Bool), v68 = .bool x68_7 ∧ Aside0 (augurylaw1_WordTells.j1 kq x0_1 x1_1 x2_1 x3_1 x9_1 x68_7 = some r) ∧ Aside0 (kq ≤ k1) ∧ Drawn0 w wc)
        case first =>
          have H := HC8.out
          clear HC8
          by_cases c9 : t141 = t143
          · rw [if_pos c9] at H
            have c9b0 : (t141 == t143) = true := beq_iff_eq.mpr c9
            have c9b1 : (t141 != t143) = false := bne_eq_false_iff_eq.mpr c9
            clear c9
            (first | rw [c9b0] | (simp only [i64_w, i32_w]; rw [c9b0]) | skip)
            by_cases c10 : (t142 != t144) = true
            · rw [if_pos c10] at H
              have c10b0 : (t142 != t144) = true := c10
              (try (have c10b1 : decide (t142 = t144) = false := by simpa using c10))
              (try (have c10b2 : (t142 == t144) = false := by simpa using c10))
              (try (have c10b3 : ¬ (t142 = t144) := by simpa using c10))
              clear c10
              have H' := Aside0.mk H
              clear H
              go_wp2
              go_meet
              case rel => exact ⟨_, (true), (by first | rfl | (simp; done) | (simp [*]; done)), H', ⟨by have := HK1.out; first | omega | exact Nat.le_refl _⟩, by repeat (first | exact Drawn0.refl _ | apply Drawn0.step)⟩
            · rw [if_neg c10] at H
              have c10b0 : (t142 != t144) = false := by simpa using c10
              (try (have c10b1 : decide (t142 = t144) = true := by simpa using c10))
              (try (have c10b2 : (t142 == t144) = true := by simpa using c10))
              clear c10
              replace H := Option.bind_eq_some_iff.mp H
              obtain ⟨t145, A110, H⟩ := H
              replace H : ((auguryref1_Mask.f x0_1 x2_1).bind fun t146 => (if t145 = t146 then ((word_Size.f x0_1).bind fun t147 => ((auguryref1_Size.f x0_1).bind fun t148 => (if t147 = t148 then ((word_Ok.f x0_1).bind fun t149 => (if x0_1 ≥ 1 then (augurylaw1_WordTells.j1 k1 x0_1 x1_1 x2_1 x3_1 x9_1 (t149 != (decide (x0_1 ≤ 16)))) else (augurylaw1_WordTells.j1 k1 x0_1 x1_1 x2_1 x3_1 x9_1 (t149 != false)))) else (augurylaw1_WordTells.j1 k1 x0_1 x1_1 x2_1 x3_1 x9_1 true)))) else (augurylaw1_WordTells.j1 k1 x0_1 x1_1 x2_1 x3_1 x9_1 true))) = some r := H
              have A11 := Aside0.mk A110
              clear A110
              replace H := Option.bind_eq_some_iff.mp H
              obtain ⟨t146, A120, H⟩ := H
              replace H : (if t145 = t146 then ((word_Size.f x0_1).bind fun t147 => ((auguryref1_Size.f x0_1).bind fun t148 => (if t147 = t148 then ((word_Ok.f x0_1).bind fun t149 => (if x0_1 ≥ 1 then (augurylaw1_WordTells.j1 k1 x0_1 x1_1 x2_1 x3_1 x9_1 (t149 != (decide (x0_1 ≤ 16)))) else (augurylaw1_WordTells.j1 k1 x0_1 x1_1 x2_1 x3_1 x9_1 (t149 != false)))) else (augurylaw1_WordTells.j1 k1 x0_1 x1_1 x2_1 x3_1 x9_1 true)))) else (augurylaw1_WordTells.j1 k1 x0_1 x1_1 x2_1 x3_1 x9_1 true)) = some r := H
              have A12 := Aside0.mk A120
              clear A120
              by_cases c13 : t145 = t146
              · rw [if_pos c13] at H
                have c13b0 : (t145 == t146) = true := beq_iff_eq.mpr c13
                have c13b1 : (t145 != t146) = false := bne_eq_false_iff_eq.mpr c13
                clear c13
                replace H := Option.bind_eq_some_iff.mp H
                obtain ⟨t147, A140, H⟩ := H
                replace H : ((auguryref1_Size.f x0_1).bind fun t148 => (if t147 = t148 then ((word_Ok.f x0_1).bind fun t149 => (if x0_1 ≥ 1 then (augurylaw1_WordTells.j1 k1 x0_1 x1_1 x2_1 x3_1 x9_1 (t149 != (decide (x0_1 ≤ 16)))) else (augurylaw1_WordTells.j1 k1 x0_1 x1_1 x2_1 x3_1 x9_1 (t149 != false)))) else (augurylaw1_WordTells.j1 k1 x0_1 x1_1 x2_1 x3_1 x9_1 true))) = some r := H
                have A14 := Aside0.mk A140
                clear A140
                replace H := Option.bind_eq_some_iff.mp H
                obtain ⟨t148, A150, H⟩ := H
                replace H : (if t147 = t148 then ((word_Ok.f x0_1).bind fun t149 => (if x0_1 ≥ 1 then (augurylaw1_WordTells.j1 k1 x0_1 x1_1 x2_1 x3_1 x9_1 (t149 != (decide (x0_1 ≤ 16)))) else (augurylaw1_WordTells.j1 k1 x0_1 x1_1 x2_1 x3_1 x9_1 (t149 != false)))) else (augurylaw1_WordTells.j1 k1 x0_1 x1_1 x2_1 x3_1 x9_1 true)) = some r := H
                have A15 := Aside0.mk A150
                clear A150
                by_cases c16 : t147 = t148
                · rw [if_pos c16] at H
                  have c16b0 : (t147 == t148) = true := beq_iff_eq.mpr c16
                  have c16b1 : (t147 != t148) = false := bne_eq_false_iff_eq.mpr c16
                  clear c16
                  replace H := Option.bind_eq_some_iff.mp H
                  obtain ⟨t149, A170, H⟩ := H
                  replace H : (if x0_1 ≥ 1 then (augurylaw1_WordTells.j1 k1 x0_1 x1_1 x2_1 x3_1 x9_1 (t149 != (decide (x0_1 ≤ 16)))) else (augurylaw1_WordTells.j1 k1 x0_1 x1_1 x2_1 x3_1 x9_1 (t149 != false))) = some r := H
                  have A17 := Aside0.mk A170
                  clear A170
                  by_cases c18 : x0_1 ≥ 1
                  · rw [if_pos c18] at H
                    have c18b0 : decide (1 ≤ x0_1) = true := decide_eq_true c18
                    clear c18
                    have H' := Aside0.mk H
                    clear H
                    go_wp2_with (first | (go_at_call 12; (with_reducible refine (word_Mask.calls x0_1 x2_1 t145 _ A11.out).mono ?_); rintro e w' ⟨rfl, ⟨nd, rfl⟩⟩) | (go_at_call 16; (with_reducible refine (auguryref1_Mask.calls x0_1 x2_1 t146 _ A12.out).mono ?_); rintro e w' ⟨rfl, ⟨nd, rfl⟩⟩) | (go_at_call 14; (with_reducible refine (word_Size.calls x0_1 t147 _ A14.out).mono ?_); rintro e w' ⟨rfl, ⟨nd, rfl⟩⟩) | (go_at_call 17; (with_reducible refine (auguryref1_Size.calls x0_1 t148 _ A15.out).mono ?_); rintro e w' ⟨rfl, ⟨nd, rfl⟩⟩) | (go_at_call 10; (with_reducible refine (word_Ok.calls x0_1 t149 _ A17.out).mono ?_); rintro e w' ⟨rfl, ⟨nd, rfl⟩⟩))
                    go_meet
                    case rel => exact ⟨_, ((t149 != (decide (x0_1 ≤ 16)))), (by first | rfl | (simp; done) | (simp [*]; done)), H', ⟨by have := HK1.out; first | omega | exact Nat.le_refl _⟩, by repeat (first | exact Drawn0.refl _ | apply Drawn0.step)⟩
                  · rw [if_neg c18] at H
                    have c18b0 : decide (1 ≤ x0_1) = false := decide_eq_false c18
                    clear c18
                    have H' := Aside0.mk H
                    clear H
                    go_wp2_with (first | (go_at_call 12; (with_reducible refine (word_Mask.calls x0_1 x2_1 t145 _ A11.out).mono ?_); rintro e w' ⟨rfl, ⟨nd, rfl⟩⟩) | (go_at_call 16; (with_reducible refine (auguryref1_Mask.calls x0_1 x2_1 t146 _ A12.out).mono ?_); rintro e w' ⟨rfl, ⟨nd, rfl⟩⟩) | (go_at_call 14; (with_reducible refine (word_Size.calls x0_1 t147 _ A14.out).mono ?_); rintro e w' ⟨rfl, ⟨nd, rfl⟩⟩) | (go_at_call 17; (with_reducible refine (auguryref1_Size.calls x0_1 t148 _ A15.out).mono ?_); rintro e w' ⟨rfl, ⟨nd, rfl⟩⟩) | (go_at_call 10; (with_reducible refine (word_Ok.calls x0_1 t149 _ A17.out).mono ?_); rintro e w' ⟨rfl, ⟨nd, rfl⟩⟩))
                    go_meet
                    case rel => exact ⟨_, ((t149 != false)), (by first | rfl | (simp; done) | (simp [*]; done)), H', ⟨by have := HK1.out; first | omega | exact Nat.le_refl _⟩, by repeat (first | exact Drawn0.refl _ | apply Drawn0.step)⟩
                · rw [if_neg c16] at H
                  have c16b0 : (t147 == t148) = false := beq_eq_false_iff_ne.mpr c16
                  have c16b1 : (t147 != t148) = true := bne_iff_ne.mpr c16
                  have H' := Aside0.mk H
                  clear H
                  go_wp2_with (first | (go_at_call 12; (with_reducible refine (word_Mask.calls x0_1 x2_1 t145 _ A11.out).mono ?_); rintro e w' ⟨rfl, ⟨nd, rfl⟩⟩) | (go_at_call 16; (with_reducible refine (auguryref1_Mask.calls x0_1 x2_1 t146 _ A12.out).mono ?_); rintro e w' ⟨rfl, ⟨nd, rfl⟩⟩) | (go_at_call 14; (with_reducible refine (word_Size.calls x0_1 t147 _ A14.out).mono ?_); rintro e w' ⟨rfl, ⟨nd, rfl⟩⟩) | (go_at_call 17; (with_reducible refine (auguryref1_Size.calls x0_1 t148 _ A15.out).mono ?_); rintro e w' ⟨rfl, ⟨nd, rfl⟩⟩))
                  go_meet
                  case rel => exact ⟨_, (true), (by first | rfl | (simp; done) | (simp [*]; done)), H', ⟨by have := HK1.out; first | omega | exact Nat.le_refl _⟩, by repeat (first | exact Drawn0.refl _ | apply Drawn0.step)⟩
              · rw [if_neg c13] at H
                have c13b0 : (t145 == t146) = false := beq_eq_false_iff_ne.mpr c13
                have c13b1 : (t145 != t146) = true := bne_iff_ne.mpr c13
                have H' := Aside0.mk H
                clear H
                go_wp2_with (first | (go_at_call 12; (with_reducible refine (word_Mask.calls x0_1 x2_1 t145 _ A11.out).mono ?_); rintro e w' ⟨rfl, ⟨nd, rfl⟩⟩) | (go_at_call 16; (with_reducible refine (auguryref1_Mask.calls x0_1 x2_1 t146 _ A12.out).mono ?_); rintro e w' ⟨rfl, ⟨nd, rfl⟩⟩))
                go_meet
                case rel => exact ⟨_, (true), (by first | rfl | (simp; done) | (simp [*]; done)), H', ⟨by have := HK1.out; first | omega | exact Nat.le_refl _⟩, by repeat (first | exact Drawn0.refl _ | apply Drawn0.step)⟩
          · rw [if_neg c9] at H
            have c9b0 : (t141 == t143) = false := beq_eq_false_iff_ne.mpr c9
            have c9b1 : (t141 != t143) = true := bne_iff_ne.mpr c9
            (first | rw [c9b0] | (simp only [i64_w, i32_w]; rw [c9b0]) | skip)
            have H' := Aside0.mk H
            clear H
            go_wp2
            go_meet
            case rel => exact ⟨_, (true), (by first | rfl | (simp; done) | (simp [*]; done)), H', ⟨by have := HK1.out; first | omega | exact Nat.le_refl _⟩, by repeat (first | exact Drawn0.refl _ | apply Drawn0.step)⟩
        case rest =>
          clear HC8
          try clear c1
          try clear p2
          try clear c5
          try clear c5b0
          try clear c7
          try clear c9
          try clear c9b0
          try clear c9b1
          try clear c10
          try clear c10b0
          try clear c10b1
          try clear c10b2
          try clear c11
          try clear c13
          try clear c13b0
          try clear c13b1
          try clear c15
          try clear c16
          try clear c16b0
          try clear c16b1
          try clear c18
          try clear c18b0
          try clear p2
          obtain ⟨kq, x68_7, rfl, HA, HJ7, ⟨mc7, rfl⟩⟩ := hcut
          cases kq with
          | zero => exact absurd HA.out (by simp [augurylaw1_WordTells.j1])
          | succ kj7 =>
            have H := HA.out
            clear HA
            simp only [augurylaw1_WordTells.j1] at H
            by_cases c19 : x68_7 = true
            · subst c19
              have H1 : (some false) = some r := by rw [if_pos rfl] at H; exact H
              clear H
              have H := H1
              clear H1
              obtain rfl := Option.some.inj H
              go_wp2
              go_ret
              exact ⟨by first | rfl | (simp; done) | (simp [*]; done), by repeat (first | exact Drawn0.refl _ | apply Drawn0.step)⟩
            · replace c19 := Bool.eq_false_iff.mpr c19
              subst c19
              have H1 : (if x9_1 = 1 then (augurylaw1_WordTells.l0 kj7 (wrap64 ((Go.bits .and .i64 x0_1 15) + 1)) (Int.tmod (Go.bits .and .i64 x1_1 255) 12) (wrap64 ((Go.bits .and .i64 x2_1 31) - 8)) (wrap64 ((Go.bits .and .i64 x3_1 31) - 8)) (wrap64 (x9_1 + 1))) else (augurylaw1_WordTells.l0 kj7 (wrap64 ((Go.bits .and .i64 x0_1 15) + 1)) (Int.tmod (Go.bits .and .i64 x1_1 255) 12) x2_1 x3_1 (wrap64 (x9_1 + 1)))) = some r := by rw [if_neg (show ¬ (false = true) by decide)] at H; exact H
              clear H
              have H := H1
              clear H1
              by_cases c20 : x9_1 = 1
              · rw [if_pos c20] at H
                have c20b0 : (x9_1 == 1) = true := beq_iff_eq.mpr c20
                have c20b1 : (x9_1 != 1) = false := bne_eq_false_iff_eq.mpr c20
                clear c20
                have H' := Aside0.mk H
                clear H
                go_wp2
                go_roundg kj7
                case measure => have := HK1.out; have := HJ7.out; omega
                case rel => exact ⟨(wrap64 ((Go.bits .and .i64 x0_1 15) + 1)), (Int.tmod (Go.bits .and .i64 x1_1 255) 12), (wrap64 ((Go.bits .and .i64 x2_1 31) - 8)), (wrap64 ((Go.bits .and .i64 x3_1 31) - 8)), (wrap64 (x9_1 + 1)), (by first | rfl | (simp; done) | (simp [*]; done)), (by first | rfl | (simp; done) | (simp [*]; done)), (by first | rfl | (simp; done) | (simp [*]; done)), (by first | rfl | (simp; done) | (simp [*]; done)), (by first | rfl | (simp; done) | (simp [*]; done)), H', ⟨by have := HK1.out; have := HJ7.out; omega⟩, by repeat (first | exact Drawn0.refl _ | apply Drawn0.step)⟩
              · rw [if_neg c20] at H
                have c20b0 : (x9_1 == 1) = false := beq_eq_false_iff_ne.mpr c20
                have c20b1 : (x9_1 != 1) = true := bne_iff_ne.mpr c20
                have H' := Aside0.mk H
                clear H
                go_wp2
                go_roundg kj7
                case measure => have := HK1.out; have := HJ7.out; omega
                case rel => exact ⟨(wrap64 ((Go.bits .and .i64 x0_1 15) + 1)), (Int.tmod (Go.bits .and .i64 x1_1 255) 12), (x2_1), (x3_1), (wrap64 (x9_1 + 1)), (by first | rfl | (simp; done) | (simp [*]; done)), (by first | rfl | (simp; done) | (simp [*]; done)), (by first | rfl | (simp; done) | (simp [*]; done)), (by first | rfl | (simp; done) | (simp [*]; done)), (by first | rfl | (simp; done) | (simp [*]; done)), H', ⟨by have := HK1.out; have := HJ7.out; omega⟩, by repeat (first | exact Drawn0.refl _ | apply Drawn0.step)⟩
      · rw [if_neg c5] at H
        have c5b0 : decide (x9_1 < 3) = false := decide_eq_false c5
        clear c5
        replace H := Option.bind_eq_some_iff.mp H
        obtain ⟨t140, A210, H⟩ := H
        replace H : (some t140) = some r := H
        have A21 := Aside0.mk A210
        clear A210
        obtain rfl := Option.some.inj H
        go_wp2_with (first | ((with_reducible refine gate_callee (f := 13) rfl ?_); refine goesL_ (some 83) rfl rfl Try.func13 (by kernel_rfl) rfl #[] rfl (by (try simp only [List.map_toArray, List.map_cons, List.map_nil]); first | done | rfl | (simp only [List.length_drop, List.length_take]; rfl)) ?_; (with_reducible refine (augurylaw1_awake.calls k1  t140 _ A21.out).mono ?_); rintro e w' ⟨rfl, ⟨nd, rfl⟩⟩; refine ⟨_, rfl, ?_⟩))
        go_ret
        exact ⟨by first | rfl | (simp; done) | (simp [*]; done), by repeat (first | exact Drawn0.refl _ | apply Drawn0.step)⟩

/-- THE ONE PURE STATEMENT of augurylaw1_WordTells: yours. -/
def augurylaw1_WordTells.Pure : Prop := ∀ (a0 : Int) (a1 : Int) (a2 : Int) (a3 : Int), (Lit.int .i64 a0).wf = true → (Lit.int .i64 a1).wf = true → (Lit.int .i64 a2).wf = true → (Lit.int .i64 a3).wf = true → ∃ k, augurylaw1_WordTells.f k a0 a1 a2 a3 = some true
theorem augurylaw1_WordTells.walk (P : augurylaw1_WordTells.Pure) (a0 : Int) (a1 : Int) (a2 : Int) (a3 : Int) (w : World) (w0 : (Lit.int .i64 a0).wf = true) (w1 : (Lit.int .i64 a1).wf = true) (w2 : (Lit.int .i64 a2).wf = true) (w3 : (Lit.int .i64 a3).wf = true) :
    Calls Try.prog 7 #[.int .i64 a0, .int .i64 a1, .int .i64 a2, .int .i64 a3] w fun e w' => e = .returned (.bool true) ∧ Below w.heap.size w w' := by
  obtain ⟨k, h⟩ := P a0 a1 a2 a3 w0 w1 w2 w3
  refine (augurylaw1_WordTells.calls k a0 a1 a2 a3 true w h).mono ?_
  rintro e w' ⟨rfl, hd⟩
  exact ⟨rfl, hd.below⟩

end Go.Proofs.Ytogihgkicpbafaa.PWordTells
