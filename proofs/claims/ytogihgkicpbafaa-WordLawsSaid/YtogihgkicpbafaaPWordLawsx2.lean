-- PRINTED BY print.sh 35421559b90ae4d0a3588c463048766b98c2df88dd9212a6774a882060cdf62d: not written by this session
import Derived.Test.YtogihgkicpbafaaPWordLawsx0
import Derived.Test.YtogihgkicpbafaaPWordLawsx1
namespace Go.Proofs.Ytogihgkicpbafaa.PWordLaws
open Go.RowKit Go.Proofs.YtogihgkicpbafaaW.PrintWords Go.Proofs.YtogihgkicpbafaaW.PrintLast Go.Proofs.YtogihgkicpbafaaW.PrintMore
attribute [local go_sem] max2_int min2_int max_two min_two max_three min_three max_four min_four   -- for this text's walks alone
set_option linter.unusedVariables false
set_option linter.unusedSimpArgs false

/-! ### augurylaw1_WordLaws: function 4 -/
def augurylaw1_WordLaws.l0 : Nat → Int → Int → Int → Int → List Int → Int → Int → Option (Bool)
  | 0, _, _, _, _, _, _, _ => none
  | k + 1, x0, x1, x2, x3, x34, x35, x36 => if x36 < x35 then (if 0 ≤ x36 then (if x36 < (x34.length : Int) then ((word_Do.f k x0 (rd x34 x36) x1 x2).bind fun bt134 => ((word_Do.f k x0 (rd x34 x36) x2 x1).bind fun bt136 => ((word_Do.f k x0 (rd x34 x36) bt134.1 x3).bind fun bt138 => ((word_Do.f k x0 (rd x34 x36) x2 x3).bind fun bt140 => ((word_Do.f k x0 (rd x34 x36) x1 bt140.1).bind fun bt142 => (if bt134.1 = bt136.1 then (if bt138.1 = bt142.1 then (augurylaw1_WordLaws.l0 k x0 x1 x2 x3 x34 x35 (wrap64 (x36 + 1))) else (some false)) else (some false))))))) else (none)) else (none)) else ((word_Do.f k x0 6 x1 (Go.bits .and .i64 x3 31)).bind fun bt144 => ((word_Do.f k x0 6 x1 (wrap64 (x0 + (Go.bits .and .i64 x3 7)))).bind fun bt146 => ((word_Do.f k x0 7 x1 (Go.bits .and .i64 x3 31)).bind fun bt148 => ((word_Mask.f x0 (Go.bits .and .i64 x3 31)).bind fun t150 => (if t150 ≥ x0 then (if bt144.1 = 0 then (if bt148.1 = 0 then ((augurylaw1_awake.f k).bind fun t151 => (some t151)) else (some false)) else (some false)) else ((word_Do.f k x0 7 bt144.1 (Go.bits .and .i64 x3 31)).bind fun bt152 => ((word_Mask.f (wrap64 (x0 - t150)) x1).bind fun t154 => (if 0 ≤ (IntKind.u64.wrap (wrap64 (x0 - t150))) then (if bt152.1 = (Go.bits .and .i64 t154 (wrap64 ((shl .i64 1 (IntKind.u64.wrap (wrap64 (x0 - t150)))) - 1))) then ((word_Mask.f x0 x1).bind fun t155 => (if 0 ≤ (IntKind.u64.wrap (t150)) then (if bt148.1 = (shr .i64 t155 (IntKind.u64.wrap (t150))) then ((word_Mask.f x0 (wrap64 (x0 + (Go.bits .and .i64 x3 7)))).bind fun t156 => (if t156 < x0 then ((augurylaw1_awake.f k).bind fun t157 => (some t157)) else (if bt146.1 = 0 then ((augurylaw1_awake.f k).bind fun t158 => (some t158)) else (some false)))) else (some false)) else (none))) else (some false)) else (none)))))))))
def augurylaw1_WordLaws.f (k : Nat) (a0 : Int) (a1 : Int) (a2 : Int) (a3 : Int) : Option (Bool) := (some (([1, 3, 4, 5, 8] : List Int) : List Int)).bind fun y130 => (augurylaw1_WordLaws.l0 k (wrap64 ((Go.bits .and .i64 a0 15) + 1)) a1 a2 a3 y130 (y130.length : Int) 0)
theorem augurylaw1_WordLaws.mono_l : ∀ k, (∀ y0 y1 y2 y3 y4 y5 y6, LeO (augurylaw1_WordLaws.l0 k y0 y1 y2 y3 y4 y5 y6) (augurylaw1_WordLaws.l0 (k + 1) y0 y1 y2 y3 y4 y5 y6))
  | 0 => fun _ _ _ _ _ _ _ r h => by simp [augurylaw1_WordLaws.l0] at h
  | k + 1 => by
    have ih0 := augurylaw1_WordLaws.mono_l k
    · intro y0 y1 y2 y3 y4 y5 y6
      unfold augurylaw1_WordLaws.l0
      repeat' first
      | (with_reducible exact ih0 _ _ _ _ _ _ _)
      | (with_reducible exact augurylaw1_awake.mono _)
      | (with_reducible exact word_Do.mono _ _ _ _ _)
      | (with_reducible exact LeO.refl _)
      | (with_reducible exact LeO.none _)
      | (with_reducible refine LeO.ite ?_ ?_)
      | (with_reducible refine LeO.bind ?_ (fun _ => ?_))
      | exact ih0 _ _ _ _ _ _ _
      | exact augurylaw1_awake.mono _
      | exact word_Do.mono _ _ _ _ _
      | exact LeO.none _
      | refine LeO.ite ?_ ?_
      | refine LeO.bind ?_ (fun _ => ?_)
theorem augurylaw1_WordLaws.mono : ∀ a0 a1 a2 a3 k, LeO (augurylaw1_WordLaws.f k a0 a1 a2 a3) (augurylaw1_WordLaws.f (k + 1) a0 a1 a2 a3) := by
  intro a0 a1 a2 a3 k
  have ih0 := augurylaw1_WordLaws.mono_l k
  unfold augurylaw1_WordLaws.f
  repeat' first
      | (with_reducible exact ih0 _ _ _ _ _ _ _)
      | (with_reducible exact augurylaw1_awake.mono _)
      | (with_reducible exact word_Do.mono _ _ _ _ _)
      | (with_reducible exact LeO.refl _)
      | (with_reducible exact LeO.none _)
      | (with_reducible refine LeO.ite ?_ ?_)
      | (with_reducible refine LeO.bind ?_ (fun _ => ?_))
      | exact ih0 _ _ _ _ _ _ _
      | exact augurylaw1_awake.mono _
      | exact word_Do.mono _ _ _ _ _
      | exact LeO.none _
      | refine LeO.ite ?_ ?_
      | refine LeO.bind ?_ (fun _ => ?_)
set_option maxHeartbeats 8000000 in
set_option maxRecDepth 100000 in
theorem augurylaw1_WordLaws.calls (k : Nat) (a0 : Int) (a1 : Int) (a2 : Int) (a3 : Int) (r : Bool) (w : World) (h : augurylaw1_WordLaws.f k a0 a1 a2 a3 = some r) :
    Calls Try.prog 4 #[.int .i64 a0, .int .i64 a1, .int .i64 a2, .int .i64 a3] w fun e w' => e = .returned (.bool r) ∧ Below w.heap.size w w' := by
  have HB := Aside0.mk (Below.refl w.heap.size w)
  have H : ((some (([1, 3, 4, 5, 8] : List Int) : List Int)).bind fun y130 => (augurylaw1_WordLaws.l0 k (wrap64 ((Go.bits .and .i64 a0 15) + 1)) a1 a2 a3 y130 (y130.length : Int) 0)) = some r := h
  clear h
  obtain ⟨y130, hy130⟩ : ∃ y_ : List Int, y_ = (([1, 3, 4, 5, 8] : List Int)) := ⟨_, rfl⟩
  replace H : (augurylaw1_WordLaws.l0 k (wrap64 ((Go.bits .and .i64 a0 15) + 1)) a1 a2 a3 y130 (y130.length : Int) 0) = some r := by first | (rw [hy130]; with_reducible exact H) | (have H2_ := (Option.bind_some _ _).symm.trans H; rw [hy130]; with_reducible exact H2_) | (have H2_ := (Option.bind_some _ _).symm.trans H; with_reducible exact H2_) | with_reducible exact H | (rw [hy130]; exact H) | exact H
  have Ny130 := Aside0.mk hy130
  clear hy130
  have H' := Aside0.mk H
  clear H
  go_enter Try.func4, Try.ntmps4
  go_wp2_with (first | ((with_reducible refine gate_dst (N := 34) rfl ?_); refine Kd.R_lit (Kd.int .i64) _ 3 ?hg (N := 34) ?hd (xs := ([1, 3, 4, 5, 8] : List Int)) (inner := [.int .i64 1, .int .i64 3, .int .i64 4, .int .i64 5, .int .i64 8]) (ok := fun _ => True) (okp := fun _ => True) ?hr ?hp (fun _ hk => hk) trivial (Below.refl _ _) (Nat.le_refl _) (by simp) ?_; (case hd => rfl); (case hg => rfl); (case hr => first | (go_simp; done) | (go_simp; rfl)); (case hp => exact (Reps.one (show Kd.M (Kd.int .i64) _ _ _ 1 [.int .i64 1] from rfl) (Reps.one (show Kd.M (Kd.int .i64) _ _ _ 3 [.int .i64 3] from rfl) (Reps.one (show Kd.M (Kd.int .i64) _ _ _ 4 [.int .i64 4] from rfl) (Reps.one (show Kd.M (Kd.int .i64) _ _ _ 5 [.int .i64 5] from rfl) (Reps.one (show Kd.M (Kd.int .i64) _ _ _ 8 [.int .i64 8] from rfl) (Reps.none _ _))))))); intro v131 w5 ho6 hb hg_ hnew_; clear hg_ hnew_; (first | rw [← Ny130.out] at ho6 | (simp only [Int.reduceToNat] at ho6; rw [← Ny130.out] at ho6)); have n0_ := Aside0.mk (Kd.R_lower ho6 (below_size (by repeat (first | (with_reducible first | exact HB.out | apply below_alloc | apply pw_below_drewN | apply below_drew1) | exact HB.out)))); have n1_ := Aside0.mk (below_step (by repeat (first | (with_reducible first | exact HB.out | apply below_alloc | apply pw_below_drewN | apply below_drew1) | exact HB.out)) hb); clear HB; have HO132 := n0_; have HB := n1_; clear n0_ n1_; clear hb ho6; obtain ⟨Ao7, co7, eo7⟩ := Kd.R_slice HO132.out; subst eo7))
  go_loopg [36] k (fun kq v36 w' => ∃ (x36_1 : Int), v36 = .int .i64 x36_1 ∧ Aside0 (augurylaw1_WordLaws.l0 kq (wrap64 ((Go.bits .and .i64 a0 15) + 1)) a1 a2 a3 y130 (y130.length : Int) x36_1 = some r) ∧ Aside0 (kq ≤ k) ∧ Aside0 (Kd.R (Kd.int .i64) 3 w' w.heap.size (fun _ => True) (.slice Ao7 y130.length co7) y130) ∧ Aside0 (Below w.heap.size w w'))
  case atStart => exact ⟨(0), (by first | rfl | (simp; done) | (simp [*]; done)), H', ⟨Nat.le_refl _⟩, ⟨by (with_reducible repeat (first | apply Kd.R_alloc | apply Kd.R_drewN | apply Kd.R_drew)); exact HO132.out⟩, ⟨by repeat (first | (with_reducible first | exact HB.out | apply below_alloc | apply pw_below_drewN | apply below_drew1) | exact HB.out)⟩⟩
  case round =>
    clear H'
    try clear p2
    try clear c4
    try clear p6
    obtain ⟨x36_1, rfl, HA, HK1, HO_34, HB⟩ := hrel
    cases gk with
    | zero => exact absurd HA.out (by simp [augurylaw1_WordLaws.l0])
    | succ k1 =>
      have H := HA.out
      clear HA
      simp only [augurylaw1_WordLaws.l0] at H
      by_cases c8 : x36_1 < (y130.length : Int)
      · rw [if_pos c8] at H
        have c8b0 : decide (x36_1 < (y130.length : Int)) = true := decide_eq_true c8
        clear c8
        by_cases c9 : 0 ≤ x36_1
        · rw [if_pos c9] at H
          have c9b0 : decide (0 ≤ x36_1) = true := decide_eq_true c9
          clear c9
          by_cases c10 : x36_1 < (y130.length : Int)
          · rw [if_pos c10] at H
            have c10b0 : decide (x36_1 < (y130.length : Int)) = true := decide_eq_true c10
            clear c10
            replace H := Option.bind_eq_some_iff.mp H
            obtain ⟨⟨t134, t135⟩, A110, H⟩ := H
            replace H : ((word_Do.f k1 (wrap64 ((Go.bits .and .i64 a0 15) + 1)) (rd y130 x36_1) a2 a1).bind fun bt136 => ((word_Do.f k1 (wrap64 ((Go.bits .and .i64 a0 15) + 1)) (rd y130 x36_1) t134 a3).bind fun bt138 => ((word_Do.f k1 (wrap64 ((Go.bits .and .i64 a0 15) + 1)) (rd y130 x36_1) a2 a3).bind fun bt140 => ((word_Do.f k1 (wrap64 ((Go.bits .and .i64 a0 15) + 1)) (rd y130 x36_1) a1 bt140.1).bind fun bt142 => (if t134 = bt136.1 then (if bt138.1 = bt142.1 then (augurylaw1_WordLaws.l0 k1 (wrap64 ((Go.bits .and .i64 a0 15) + 1)) a1 a2 a3 y130 (y130.length : Int) (wrap64 (x36_1 + 1))) else (some false)) else (some false)))))) = some r := H
            have A11 := Aside0.mk A110
            clear A110
            replace H := Option.bind_eq_some_iff.mp H
            obtain ⟨⟨t136, t137⟩, A120, H⟩ := H
            replace H : ((word_Do.f k1 (wrap64 ((Go.bits .and .i64 a0 15) + 1)) (rd y130 x36_1) t134 a3).bind fun bt138 => ((word_Do.f k1 (wrap64 ((Go.bits .and .i64 a0 15) + 1)) (rd y130 x36_1) a2 a3).bind fun bt140 => ((word_Do.f k1 (wrap64 ((Go.bits .and .i64 a0 15) + 1)) (rd y130 x36_1) a1 bt140.1).bind fun bt142 => (if t134 = t136 then (if bt138.1 = bt142.1 then (augurylaw1_WordLaws.l0 k1 (wrap64 ((Go.bits .and .i64 a0 15) + 1)) a1 a2 a3 y130 (y130.length : Int) (wrap64 (x36_1 + 1))) else (some false)) else (some false))))) = some r := H
            have A12 := Aside0.mk A120
            clear A120
            replace H := Option.bind_eq_some_iff.mp H
            obtain ⟨⟨t138, t139⟩, A130, H⟩ := H
            replace H : ((word_Do.f k1 (wrap64 ((Go.bits .and .i64 a0 15) + 1)) (rd y130 x36_1) a2 a3).bind fun bt140 => ((word_Do.f k1 (wrap64 ((Go.bits .and .i64 a0 15) + 1)) (rd y130 x36_1) a1 bt140.1).bind fun bt142 => (if t134 = t136 then (if t138 = bt142.1 then (augurylaw1_WordLaws.l0 k1 (wrap64 ((Go.bits .and .i64 a0 15) + 1)) a1 a2 a3 y130 (y130.length : Int) (wrap64 (x36_1 + 1))) else (some false)) else (some false)))) = some r := H
            have A13 := Aside0.mk A130
            clear A130
            replace H := Option.bind_eq_some_iff.mp H
            obtain ⟨⟨t140, t141⟩, A140, H⟩ := H
            replace H : ((word_Do.f k1 (wrap64 ((Go.bits .and .i64 a0 15) + 1)) (rd y130 x36_1) a1 t140).bind fun bt142 => (if t134 = t136 then (if t138 = bt142.1 then (augurylaw1_WordLaws.l0 k1 (wrap64 ((Go.bits .and .i64 a0 15) + 1)) a1 a2 a3 y130 (y130.length : Int) (wrap64 (x36_1 + 1))) else (some false)) else (some false))) = some r := H
            have A14 := Aside0.mk A140
            clear A140
            replace H := Option.bind_eq_some_iff.mp H
            obtain ⟨⟨t142, t143⟩, A150, H⟩ := H
            replace H : (if t134 = t136 then (if t138 = t142 then (augurylaw1_WordLaws.l0 k1 (wrap64 ((Go.bits .and .i64 a0 15) + 1)) a1 a2 a3 y130 (y130.length : Int) (wrap64 (x36_1 + 1))) else (some false)) else (some false)) = some r := H
            have A15 := Aside0.mk A150
            clear A150
            by_cases c16 : t134 = t136
            · rw [if_pos c16] at H
              have c16b0 : (t134 == t136) = true := beq_iff_eq.mpr c16
              have c16b1 : (t134 != t136) = false := bne_eq_false_iff_eq.mpr c16
              clear c16
              by_cases c17 : t138 = t142
              · rw [if_pos c17] at H
                have c17b0 : (t138 == t142) = true := beq_iff_eq.mpr c17
                have c17b1 : (t138 != t142) = false := bne_eq_false_iff_eq.mpr c17
                clear c17
                have H' := Aside0.mk H
                clear H
                have p133 : 0 ≤ (x36_1 : Int) := of_decide_eq_true (by first | (with_reducible assumption) | assumption)
                have q133 : x36_1 < (y130.length : Int) := of_decide_eq_true (by first | (with_reducible assumption) | assumption)
                obtain ⟨ad133, e133, hx133_0⟩ := Kd.at_int (Kd.R_reads' HO_34.out).2.2 x36_1 p133 q133
                cases e133
                replace p133 := eq_true p133
                replace q133 := eq_true q133
                go_wp2_with (first | ((with_reducible refine gate_callee (f := 11) rfl ?_); refine goesL_ (some 45) rfl rfl Try.func11 (by kernel_rfl) rfl #[.int .i64 (wrap64 ((Go.bits .and .i64 a0 15) + 1)), .int .i64 (rd y130 x36_1), .int .i64 a1, .int .i64 a2] rfl (by (try simp only [List.map_toArray, List.map_cons, List.map_nil]); first | done | rfl | (simp only [List.length_drop, List.length_take]; rfl)) ?_; (with_reducible refine (word_Do.calls k1 (wrap64 ((Go.bits .and .i64 a0 15) + 1)) (rd y130 x36_1) a1 a2 t134 t135 _ A11.out).mono ?_); rintro e w' ⟨rfl, ⟨nd, rfl⟩⟩; refine ⟨_, rfl, ?_⟩) | ((with_reducible refine gate_callee (f := 11) rfl ?_); refine goesL_ (some 53) rfl rfl Try.func11 (by kernel_rfl) rfl #[.int .i64 (wrap64 ((Go.bits .and .i64 a0 15) + 1)), .int .i64 (rd y130 x36_1), .int .i64 a2, .int .i64 a1] rfl (by (try simp only [List.map_toArray, List.map_cons, List.map_nil]); first | done | rfl | (simp only [List.length_drop, List.length_take]; rfl)) ?_; (with_reducible refine (word_Do.calls k1 (wrap64 ((Go.bits .and .i64 a0 15) + 1)) (rd y130 x36_1) a2 a1 t136 t137 _ A12.out).mono ?_); rintro e w' ⟨rfl, ⟨nd, rfl⟩⟩; refine ⟨_, rfl, ?_⟩) | ((with_reducible refine gate_callee (f := 11) rfl ?_); refine goesL_ (some 61) rfl rfl Try.func11 (by kernel_rfl) rfl #[.int .i64 (wrap64 ((Go.bits .and .i64 a0 15) + 1)), .int .i64 (rd y130 x36_1), .int .i64 t134, .int .i64 a3] rfl (by (try simp only [List.map_toArray, List.map_cons, List.map_nil]); first | done | rfl | (simp only [List.length_drop, List.length_take]; rfl)) ?_; (with_reducible refine (word_Do.calls k1 (wrap64 ((Go.bits .and .i64 a0 15) + 1)) (rd y130 x36_1) t134 a3 t138 t139 _ A13.out).mono ?_); rintro e w' ⟨rfl, ⟨nd, rfl⟩⟩; refine ⟨_, rfl, ?_⟩) | ((with_reducible refine gate_callee (f := 11) rfl ?_); refine goesL_ (some 69) rfl rfl Try.func11 (by kernel_rfl) rfl #[.int .i64 (wrap64 ((Go.bits .and .i64 a0 15) + 1)), .int .i64 (rd y130 x36_1), .int .i64 a2, .int .i64 a3] rfl (by (try simp only [List.map_toArray, List.map_cons, List.map_nil]); first | done | rfl | (simp only [List.length_drop, List.length_take]; rfl)) ?_; (with_reducible refine (word_Do.calls k1 (wrap64 ((Go.bits .and .i64 a0 15) + 1)) (rd y130 x36_1) a2 a3 t140 t141 _ A14.out).mono ?_); rintro e w' ⟨rfl, ⟨nd, rfl⟩⟩; refine ⟨_, rfl, ?_⟩) | ((with_reducible refine gate_callee (f := 11) rfl ?_); refine goesL_ (some 77) rfl rfl Try.func11 (by kernel_rfl) rfl #[.int .i64 (wrap64 ((Go.bits .and .i64 a0 15) + 1)), .int .i64 (rd y130 x36_1), .int .i64 a1, .int .i64 t140] rfl (by (try simp only [List.map_toArray, List.map_cons, List.map_nil]); first | done | rfl | (simp only [List.length_drop, List.length_take]; rfl)) ?_; (with_reducible refine (word_Do.calls k1 (wrap64 ((Go.bits .and .i64 a0 15) + 1)) (rd y130 x36_1) a1 t140 t142 t143 _ A15.out).mono ?_); rintro e w' ⟨rfl, ⟨nd, rfl⟩⟩; refine ⟨_, rfl, ?_⟩))
                go_roundg k1
                case measure => have := HK1.out; omega
                case rel => exact ⟨(wrap64 (x36_1 + 1)), (by first | rfl | (simp; done) | (simp [*]; done)), H', ⟨by have := HK1.out; omega⟩, ⟨by (with_reducible repeat (first | apply Kd.R_alloc | apply Kd.R_drewN | apply Kd.R_drew)); exact HO_34.out⟩, ⟨by repeat (first | (with_reducible first | exact HB.out | apply below_alloc | apply pw_below_drewN | apply below_drew1) | exact HB.out)⟩⟩
              · rw [if_neg c17] at H
                have c17b0 : (t138 == t142) = false := beq_eq_false_iff_ne.mpr c17
                have c17b1 : (t138 != t142) = true := bne_iff_ne.mpr c17
                obtain rfl := Option.some.inj H
                have p133 : 0 ≤ (x36_1 : Int) := of_decide_eq_true (by first | (with_reducible assumption) | assumption)
                have q133 : x36_1 < (y130.length : Int) := of_decide_eq_true (by first | (with_reducible assumption) | assumption)
                obtain ⟨ad133, e133, hx133_0⟩ := Kd.at_int (Kd.R_reads' HO_34.out).2.2 x36_1 p133 q133
                cases e133
                replace p133 := eq_true p133
                replace q133 := eq_true q133
                go_wp2_with (first | ((with_reducible refine gate_callee (f := 11) rfl ?_); refine goesL_ (some 45) rfl rfl Try.func11 (by kernel_rfl) rfl #[.int .i64 (wrap64 ((Go.bits .and .i64 a0 15) + 1)), .int .i64 (rd y130 x36_1), .int .i64 a1, .int .i64 a2] rfl (by (try simp only [List.map_toArray, List.map_cons, List.map_nil]); first | done | rfl | (simp only [List.length_drop, List.length_take]; rfl)) ?_; (with_reducible refine (word_Do.calls k1 (wrap64 ((Go.bits .and .i64 a0 15) + 1)) (rd y130 x36_1) a1 a2 t134 t135 _ A11.out).mono ?_); rintro e w' ⟨rfl, ⟨nd, rfl⟩⟩; refine ⟨_, rfl, ?_⟩) | ((with_reducible refine gate_callee (f := 11) rfl ?_); refine goesL_ (some 53) rfl rfl Try.func11 (by kernel_rfl) rfl #[.int .i64 (wrap64 ((Go.bits .and .i64 a0 15) + 1)), .int .i64 (rd y130 x36_1), .int .i64 a2, .int .i64 a1] rfl (by (try simp only [List.map_toArray, List.map_cons, List.map_nil]); first | done | rfl | (simp only [List.length_drop, List.length_take]; rfl)) ?_; (with_reducible refine (word_Do.calls k1 (wrap64 ((Go.bits .and .i64 a0 15) + 1)) (rd y130 x36_1) a2 a1 t136 t137 _ A12.out).mono ?_); rintro e w' ⟨rfl, ⟨nd, rfl⟩⟩; refine ⟨_, rfl, ?_⟩) | ((with_reducible refine gate_callee (f := 11) rfl ?_); refine goesL_ (some 61) rfl rfl Try.func11 (by kernel_rfl) rfl #[.int .i64 (wrap64 ((Go.bits .and .i64 a0 15) + 1)), .int .i64 (rd y130 x36_1), .int .i64 t134, .int .i64 a3] rfl (by (try simp only [List.map_toArray, List.map_cons, List.map_nil]); first | done | rfl | (simp only [List.length_drop, List.length_take]; rfl)) ?_; (with_reducible refine (word_Do.calls k1 (wrap64 ((Go.bits .and .i64 a0 15) + 1)) (rd y130 x36_1) t134 a3 t138 t139 _ A13.out).mono ?_); rintro e w' ⟨rfl, ⟨nd, rfl⟩⟩; refine ⟨_, rfl, ?_⟩) | ((with_reducible refine gate_callee (f := 11) rfl ?_); refine goesL_ (some 69) rfl rfl Try.func11 (by kernel_rfl) rfl #[.int .i64 (wrap64 ((Go.bits .and .i64 a0 15) + 1)), .int .i64 (rd y130 x36_1), .int .i64 a2, .int .i64 a3] rfl (by (try simp only [List.map_toArray, List.map_cons, List.map_nil]); first | done | rfl | (simp only [List.length_drop, List.length_take]; rfl)) ?_; (with_reducible refine (word_Do.calls k1 (wrap64 ((Go.bits .and .i64 a0 15) + 1)) (rd y130 x36_1) a2 a3 t140 t141 _ A14.out).mono ?_); rintro e w' ⟨rfl, ⟨nd, rfl⟩⟩; refine ⟨_, rfl, ?_⟩) | ((with_reducible refine gate_callee (f := 11) rfl ?_); refine goesL_ (some 77) rfl rfl Try.func11 (by kernel_rfl) rfl #[.int .i64 (wrap64 ((Go.bits .and .i64 a0 15) + 1)), .int .i64 (rd y130 x36_1), .int .i64 a1, .int .i64 t140] rfl (by (try simp only [List.map_toArray, List.map_cons, List.map_nil]); first | done | rfl | (simp only [List.length_drop, List.length_take]; rfl)) ?_; (with_reducible refine (word_Do.calls k1 (wrap64 ((Go.bits .and .i64 a0 15) + 1)) (rd y130 x36_1) a1 t140 t142 t143 _ A15.out).mono ?_); rintro e w' ⟨rfl, ⟨nd, rfl⟩⟩; refine ⟨_, rfl, ?_⟩))
                go_ret
                exact ⟨by first | rfl | (simp [errW_none, errW_some] <;> rfl) | (simp [*, errW_none, errW_some] <;> rfl), by repeat (first | (with_reducible first | exact HB.out | apply below_alloc | apply pw_below_drewN | apply below_drew1) | exact HB.out)⟩
            · rw [if_neg c16] at H
              have c16b0 : (t134 == t136) = false := beq_eq_false_iff_ne.mpr c16
              have c16b1 : (t134 != t136) = true := bne_iff_ne.mpr c16
              obtain rfl := Option.some.inj H
              have p133 : 0 ≤ (x36_1 : Int) := of_decide_eq_true (by first | (with_reducible assumption) | assumption)
              have q133 : x36_1 < (y130.length : Int) := of_decide_eq_true (by first | (with_reducible assumption) | assumption)
              obtain ⟨ad133, e133, hx133_0⟩ := Kd.at_int (Kd.R_reads' HO_34.out).2.2 x36_1 p133 q133
              cases e133
              replace p133 := eq_true p133
              replace q133 := eq_true q133
              go_wp2_with (first | ((with_reducible refine gate_callee (f := 11) rfl ?_); refine goesL_ (some 45) rfl rfl Try.func11 (by kernel_rfl) rfl #[.int .i64 (wrap64 ((Go.bits .and .i64 a0 15) + 1)), .int .i64 (rd y130 x36_1), .int .i64 a1, .int .i64 a2] rfl (by (try simp only [List.map_toArray, List.map_cons, List.map_nil]); first | done | rfl | (simp only [List.length_drop, List.length_take]; rfl)) ?_; (with_reducible refine (word_Do.calls k1 (wrap64 ((Go.bits .and .i64 a0 15) + 1)) (rd y130 x36_1) a1 a2 t134 t135 _ A11.out).mono ?_); rintro e w' ⟨rfl, ⟨nd, rfl⟩⟩; refine ⟨_, rfl, ?_⟩) | ((with_reducible refine gate_callee (f := 11) rfl ?_); refine goesL_ (some 53) rfl rfl Try.func11 (by kernel_rfl) rfl #[.int .i64 (wrap64 ((Go.bits .and .i64 a0 15) + 1)), .int .i64 (rd y130 x36_1), .int .i64 a2, .int .i64 a1] rfl (by (try simp only [List.map_toArray, List.map_cons, List.map_nil]); first | done | rfl | (simp only [List.length_drop, List.length_take]; rfl)) ?_; (with_reducible refine (word_Do.calls k1 (wrap64 ((Go.bits .and .i64 a0 15) + 1)) (rd y130 x36_1) a2 a1 t136 t137 _ A12.out).mono ?_); rintro e w' ⟨rfl, ⟨nd, rfl⟩⟩; refine ⟨_, rfl, ?_⟩) | ((with_reducible refine gate_callee (f := 11) rfl ?_); refine goesL_ (some 61) rfl rfl Try.func11 (by kernel_rfl) rfl #[.int .i64 (wrap64 ((Go.bits .and .i64 a0 15) + 1)), .int .i64 (rd y130 x36_1), .int .i64 t134, .int .i64 a3] rfl (by (try simp only [List.map_toArray, List.map_cons, List.map_nil]); first | done | rfl | (simp only [List.length_drop, List.length_take]; rfl)) ?_; (with_reducible refine (word_Do.calls k1 (wrap64 ((Go.bits .and .i64 a0 15) + 1)) (rd y130 x36_1) t134 a3 t138 t139 _ A13.out).mono ?_); rintro e w' ⟨rfl, ⟨nd, rfl⟩⟩; refine ⟨_, rfl, ?_⟩) | ((with_reducible refine gate_callee (f := 11) rfl ?_); refine goesL_ (some 69) rfl rfl Try.func11 (by kernel_rfl) rfl #[.int .i64 (wrap64 ((Go.bits .and .i64 a0 15) + 1)), .int .i64 (rd y130 x36_1), .int .i64 a2, .int .i64 a3] rfl (by (try simp only [List.map_toArray, List.map_cons, List.map_nil]); first | done | rfl | (simp only [List.length_drop, List.length_take]; rfl)) ?_; (with_reducible refine (word_Do.calls k1 (wrap64 ((Go.bits .and .i64 a0 15) + 1)) (rd y130 x36_1) a2 a3 t140 t141 _ A14.out).mono ?_); rintro e w' ⟨rfl, ⟨nd, rfl⟩⟩; refine ⟨_, rfl, ?_⟩) | ((with_reducible refine gate_callee (f := 11) rfl ?_); refine goesL_ (some 77) rfl rfl Try.func11 (by kernel_rfl) rfl #[.int .i64 (wrap64 ((Go.bits .and .i64 a0 15) + 1)), .int .i64 (rd y130 x36_1), .int .i64 a1, .int .i64 t140] rfl (by (try simp only [List.map_toArray, List.map_cons, List.map_nil]); first | done | rfl | (simp only [List.length_drop, List.length_take]; rfl)) ?_; (with_reducible refine (word_Do.calls k1 (wrap64 ((Go.bits .and .i64 a0 15) + 1)) (rd y130 x36_1) a1 t140 t142 t143 _ A15.out).mono ?_); rintro e w' ⟨rfl, ⟨nd, rfl⟩⟩; refine ⟨_, rfl, ?_⟩))
              go_ret
              exact ⟨by first | rfl | (simp [errW_none, errW_some] <;> rfl) | (simp [*, errW_none, errW_some] <;> rfl), by repeat (first | (with_reducible first | exact HB.out | apply below_alloc | apply pw_below_drewN | apply below_drew1) | exact HB.out)⟩
          · rw [if_neg c10] at H
            exact absurd H (by simp)
        · rw [if_neg c9] at H
          exact absurd H (by simp)
      · rw [if_neg c8] at H
        have c8b0 : decide (x36_1 < (y130.length : Int)) = false := decide_eq_false c8
        clear c8
        replace H := Option.bind_eq_some_iff.mp H
        obtain ⟨⟨t144, t145⟩, A180, H⟩ := H
        replace H : ((word_Do.f k1 (wrap64 ((Go.bits .and .i64 a0 15) + 1)) 6 a1 (wrap64 ((wrap64 ((Go.bits .and .i64 a0 15) + 1)) + (Go.bits .and .i64 a3 7)))).bind fun bt146 => ((word_Do.f k1 (wrap64 ((Go.bits .and .i64 a0 15) + 1)) 7 a1 (Go.bits .and .i64 a3 31)).bind fun bt148 => ((word_Mask.f (wrap64 ((Go.bits .and .i64 a0 15) + 1)) (Go.bits .and .i64 a3 31)).bind fun t150 => (if t150 ≥ (wrap64 ((Go.bits .and .i64 a0 15) + 1)) then (if t144 = 0 then (if bt148.1 = 0 then ((augurylaw1_awake.f k1).bind fun t151 => (some t151)) else (some false)) else (some false)) else ((word_Do.f k1 (wrap64 ((Go.bits .and .i64 a0 15) + 1)) 7 t144 (Go.bits .and .i64 a3 31)).bind fun bt152 => ((word_Mask.f (wrap64 ((wrap64 ((Go.bits .and .i64 a0 15) + 1)) - t150)) a1).bind fun t154 => (if 0 ≤ (IntKind.u64.wrap (wrap64 ((wrap64 ((Go.bits .and .i64 a0 15) + 1)) - t150))) then (if bt152.1 = (Go.bits .and .i64 t154 (wrap64 ((shl .i64 1 (IntKind.u64.wrap (wrap64 ((wrap64 ((Go.bits .and .i64 a0 15) + 1)) - t150)))) - 1))) then ((word_Mask.f (wrap64 ((Go.bits .and .i64 a0 15) + 1)) a1).bind fun t155 => (if 0 ≤ (IntKind.u64.wrap (t150)) then (if bt148.1 = (shr .i64 t155 (IntKind.u64.wrap (t150))) then ((word_Mask.f (wrap64 ((Go.bits .and .i64 a0 15) + 1)) (wrap64 ((wrap64 ((Go.bits .and .i64 a0 15) + 1)) + (Go.bits .and .i64 a3 7)))).bind fun t156 => (if t156 < (wrap64 ((Go.bits .and .i64 a0 15) + 1)) then ((augurylaw1_awake.f k1).bind fun t157 => (some t157)) else (if bt146.1 = 0 then ((augurylaw1_awake.f k1).bind fun t158 => (some t158)) else (some false)))) else (some false)) else (none))) else (some false)) else (none)))))))) = some r := H
        have A18 := Aside0.mk A180
        clear A180
        replace H := Option.bind_eq_some_iff.mp H
        obtain ⟨⟨t146, t147⟩, A190, H⟩ := H
        replace H : ((word_Do.f k1 (wrap64 ((Go.bits .and .i64 a0 15) + 1)) 7 a1 (Go.bits .and .i64 a3 31)).bind fun bt148 => ((word_Mask.f (wrap64 ((Go.bits .and .i64 a0 15) + 1)) (Go.bits .and .i64 a3 31)).bind fun t150 => (if t150 ≥ (wrap64 ((Go.bits .and .i64 a0 15) + 1)) then (if t144 = 0 then (if bt148.1 = 0 then ((augurylaw1_awake.f k1).bind fun t151 => (some t151)) else (some false)) else (some false)) else ((word_Do.f k1 (wrap64 ((Go.bits .and .i64 a0 15) + 1)) 7 t144 (Go.bits .and .i64 a3 31)).bind fun bt152 => ((word_Mask.f (wrap64 ((wrap64 ((Go.bits .and .i64 a0 15) + 1)) - t150)) a1).bind fun t154 => (if 0 ≤ (IntKind.u64.wrap (wrap64 ((wrap64 ((Go.bits .and .i64 a0 15) + 1)) - t150))) then (if bt152.1 = (Go.bits .and .i64 t154 (wrap64 ((shl .i64 1 (IntKind.u64.wrap (wrap64 ((wrap64 ((Go.bits .and .i64 a0 15) + 1)) - t150)))) - 1))) then ((word_Mask.f (wrap64 ((Go.bits .and .i64 a0 15) + 1)) a1).bind fun t155 => (if 0 ≤ (IntKind.u64.wrap (t150)) then (if bt148.1 = (shr .i64 t155 (IntKind.u64.wrap (t150))) then ((word_Mask.f (wrap64 ((Go.bits .and .i64 a0 15) + 1)) (wrap64 ((wrap64 ((Go.bits .and .i64 a0 15) + 1)) + (Go.bits .and .i64 a3 7)))).bind fun t156 => (if t156 < (wrap64 ((Go.bits .and .i64 a0 15) + 1)) then ((augurylaw1_awake.f k1).bind fun t157 => (some t157)) else (if t146 = 0 then ((augurylaw1_awake.f k1).bind fun t158 => (some t158)) else (some false)))) else (some false)) else (none))) else (some false)) else (none))))))) = some r := H
        have A19 := Aside0.mk A190
        clear A190
        replace H := Option.bind_eq_some_iff.mp H
        obtain ⟨⟨t148, t149⟩, A200, H⟩ := H
        replace H : ((word_Mask.f (wrap64 ((Go.bits .and .i64 a0 15) + 1)) (Go.bits .and .i64 a3 31)).bind fun t150 => (if t150 ≥ (wrap64 ((Go.bits .and .i64 a0 15) + 1)) then (if t144 = 0 then (if t148 = 0 then ((augurylaw1_awake.f k1).bind fun t151 => (some t151)) else (some false)) else (some false)) else ((word_Do.f k1 (wrap64 ((Go.bits .and .i64 a0 15) + 1)) 7 t144 (Go.bits .and .i64 a3 31)).bind fun bt152 => ((word_Mask.f (wrap64 ((wrap64 ((Go.bits .and .i64 a0 15) + 1)) - t150)) a1).bind fun t154 => (if 0 ≤ (IntKind.u64.wrap (wrap64 ((wrap64 ((Go.bits .and .i64 a0 15) + 1)) - t150))) then (if bt152.1 = (Go.bits .and .i64 t154 (wrap64 ((shl .i64 1 (IntKind.u64.wrap (wrap64 ((wrap64 ((Go.bits .and .i64 a0 15) + 1)) - t150)))) - 1))) then ((word_Mask.f (wrap64 ((Go.bits .and .i64 a0 15) + 1)) a1).bind fun t155 => (if 0 ≤ (IntKind.u64.wrap (t150)) then (if t148 = (shr .i64 t155 (IntKind.u64.wrap (t150))) then ((word_Mask.f (wrap64 ((Go.bits .and .i64 a0 15) + 1)) (wrap64 ((wrap64 ((Go.bits .and .i64 a0 15) + 1)) + (Go.bits .and .i64 a3 7)))).bind fun t156 => (if t156 < (wrap64 ((Go.bits .and .i64 a0 15) + 1)) then ((augurylaw1_awake.f k1).bind fun t157 => (some t157)) else (if t146 = 0 then ((augurylaw1_awake.f k1).bind fun t158 => (some t158)) else (some false)))) else (some false)) else (none))) else (some false)) else (none)))))) = some r := H
        have A20 := Aside0.mk A200
        clear A200
        replace H := Option.bind_eq_some_iff.mp H
        obtain ⟨t150, A210, H⟩ := H
        replace H : (if t150 ≥ (wrap64 ((Go.bits .and .i64 a0 15) + 1)) then (if t144 = 0 then (if t148 = 0 then ((augurylaw1_awake.f k1).bind fun t151 => (some t151)) else (some false)) else (some false)) else ((word_Do.f k1 (wrap64 ((Go.bits .and .i64 a0 15) + 1)) 7 t144 (Go.bits .and .i64 a3 31)).bind fun bt152 => ((word_Mask.f (wrap64 ((wrap64 ((Go.bits .and .i64 a0 15) + 1)) - t150)) a1).bind fun t154 => (if 0 ≤ (IntKind.u64.wrap (wrap64 ((wrap64 ((Go.bits .and .i64 a0 15) + 1)) - t150))) then (if bt152.1 = (Go.bits .and .i64 t154 (wrap64 ((shl .i64 1 (IntKind.u64.wrap (wrap64 ((wrap64 ((Go.bits .and .i64 a0 15) + 1)) - t150)))) - 1))) then ((word_Mask.f (wrap64 ((Go.bits .and .i64 a0 15) + 1)) a1).bind fun t155 => (if 0 ≤ (IntKind.u64.wrap (t150)) then (if t148 = (shr .i64 t155 (IntKind.u64.wrap (t150))) then ((word_Mask.f (wrap64 ((Go.bits .and .i64 a0 15) + 1)) (wrap64 ((wrap64 ((Go.bits .and .i64 a0 15) + 1)) + (Go.bits .and .i64 a3 7)))).bind fun t156 => (if t156 < (wrap64 ((Go.bits .and .i64 a0 15) + 1)) then ((augurylaw1_awake.f k1).bind fun t157 => (some t157)) else (if t146 = 0 then ((augurylaw1_awake.f k1).bind fun t158 => (some t158)) else (some false)))) else (some false)) else (none))) else (some false)) else (none))))) = some r := H
        have A21 := Aside0.mk A210
        clear A210
        by_cases c22 : t150 ≥ (wrap64 ((Go.bits .and .i64 a0 15) + 1))
        · rw [if_pos c22] at H
          have c22b0 : decide ((wrap64 ((Go.bits .and .i64 a0 15) + 1)) ≤ t150) = true := decide_eq_true c22
          clear c22
          by_cases c23 : t144 = 0
          · rw [if_pos c23] at H
            have c23b0 : (t144 == 0) = true := beq_iff_eq.mpr c23
            have c23b1 : (t144 != 0) = false := bne_eq_false_iff_eq.mpr c23
            clear c23
            by_cases c24 : t148 = 0
            · rw [if_pos c24] at H
              have c24b0 : (t148 == 0) = true := beq_iff_eq.mpr c24
              have c24b1 : (t148 != 0) = false := bne_eq_false_iff_eq.mpr c24
              clear c24
              replace H := Option.bind_eq_some_iff.mp H
              obtain ⟨t151, A250, H⟩ := H
              replace H : (some t151) = some r := H
              have A25 := Aside0.mk A250
              clear A250
              obtain rfl := Option.some.inj H
              go_wp2_with (first | ((with_reducible refine gate_callee (f := 11) rfl ?_); refine goesL_ (some 95) rfl rfl Try.func11 (by kernel_rfl) rfl #[.int .i64 (wrap64 ((Go.bits .and .i64 a0 15) + 1)), .int .i64 6, .int .i64 a1, .int .i64 (Go.bits .and .i64 a3 31)] rfl (by (try simp only [List.map_toArray, List.map_cons, List.map_nil]); first | done | rfl | (simp only [List.length_drop, List.length_take]; rfl)) ?_; (with_reducible refine (word_Do.calls k1 (wrap64 ((Go.bits .and .i64 a0 15) + 1)) 6 a1 (Go.bits .and .i64 a3 31) t144 t145 _ A18.out).mono ?_); rintro e w' ⟨rfl, ⟨nd, rfl⟩⟩; refine ⟨_, rfl, ?_⟩) | ((with_reducible refine gate_callee (f := 11) rfl ?_); refine goesL_ (some 105) rfl rfl Try.func11 (by kernel_rfl) rfl #[.int .i64 (wrap64 ((Go.bits .and .i64 a0 15) + 1)), .int .i64 6, .int .i64 a1, .int .i64 (wrap64 ((wrap64 ((Go.bits .and .i64 a0 15) + 1)) + (Go.bits .and .i64 a3 7)))] rfl (by (try simp only [List.map_toArray, List.map_cons, List.map_nil]); first | done | rfl | (simp only [List.length_drop, List.length_take]; rfl)) ?_; (with_reducible refine (word_Do.calls k1 (wrap64 ((Go.bits .and .i64 a0 15) + 1)) 6 a1 (wrap64 ((wrap64 ((Go.bits .and .i64 a0 15) + 1)) + (Go.bits .and .i64 a3 7))) t146 t147 _ A19.out).mono ?_); rintro e w' ⟨rfl, ⟨nd, rfl⟩⟩; refine ⟨_, rfl, ?_⟩) | ((with_reducible refine gate_callee (f := 11) rfl ?_); refine goesL_ (some 112) rfl rfl Try.func11 (by kernel_rfl) rfl #[.int .i64 (wrap64 ((Go.bits .and .i64 a0 15) + 1)), .int .i64 7, .int .i64 a1, .int .i64 (Go.bits .and .i64 a3 31)] rfl (by (try simp only [List.map_toArray, List.map_cons, List.map_nil]); first | done | rfl | (simp only [List.length_drop, List.length_take]; rfl)) ?_; (with_reducible refine (word_Do.calls k1 (wrap64 ((Go.bits .and .i64 a0 15) + 1)) 7 a1 (Go.bits .and .i64 a3 31) t148 t149 _ A20.out).mono ?_); rintro e w' ⟨rfl, ⟨nd, rfl⟩⟩; refine ⟨_, rfl, ?_⟩) | ((with_reducible refine gate_callee (f := 12) rfl ?_); refine goesL_ (some 117) rfl rfl Try.func12 (by kernel_rfl) rfl #[.int .i64 (wrap64 ((Go.bits .and .i64 a0 15) + 1)), .int .i64 (Go.bits .and .i64 a3 31)] rfl (by (try simp only [List.map_toArray, List.map_cons, List.map_nil]); first | done | rfl | (simp only [List.length_drop, List.length_take]; rfl)) ?_; (with_reducible refine (word_Mask.calls (wrap64 ((Go.bits .and .i64 a0 15) + 1)) (Go.bits .and .i64 a3 31) t150 _ A21.out).mono ?_); rintro e w' ⟨rfl, ⟨nd, rfl⟩⟩; refine ⟨_, rfl, ?_⟩) | (go_at_call 13; (with_reducible refine (augurylaw1_awake.calls k1  t151 _ A25.out).mono ?_); rintro e w' ⟨rfl, ⟨nd, rfl⟩⟩))
              go_ret
              exact ⟨by first | rfl | (simp [errW_none, errW_some] <;> rfl) | (simp [*, errW_none, errW_some] <;> rfl), by repeat (first | (with_reducible first | exact HB.out | apply below_alloc | apply pw_below_drewN | apply below_drew1) | exact HB.out)⟩
            · rw [if_neg c24] at H
              have c24b0 : (t148 == 0) = false := beq_eq_false_iff_ne.mpr c24
              have c24b1 : (t148 != 0) = true := bne_iff_ne.mpr c24
              obtain rfl := Option.some.inj H
              go_wp2_with (first | ((with_reducible refine gate_callee (f := 11) rfl ?_); refine goesL_ (some 95) rfl rfl Try.func11 (by kernel_rfl) rfl #[.int .i64 (wrap64 ((Go.bits .and .i64 a0 15) + 1)), .int .i64 6, .int .i64 a1, .int .i64 (Go.bits .and .i64 a3 31)] rfl (by (try simp only [List.map_toArray, List.map_cons, List.map_nil]); first | done | rfl | (simp only [List.length_drop, List.length_take]; rfl)) ?_; (with_reducible refine (word_Do.calls k1 (wrap64 ((Go.bits .and .i64 a0 15) + 1)) 6 a1 (Go.bits .and .i64 a3 31) t144 t145 _ A18.out).mono ?_); rintro e w' ⟨rfl, ⟨nd, rfl⟩⟩; refine ⟨_, rfl, ?_⟩) | ((with_reducible refine gate_callee (f := 11) rfl ?_); refine goesL_ (some 105) rfl rfl Try.func11 (by kernel_rfl) rfl #[.int .i64 (wrap64 ((Go.bits .and .i64 a0 15) + 1)), .int .i64 6, .int .i64 a1, .int .i64 (wrap64 ((wrap64 ((Go.bits .and .i64 a0 15) + 1)) + (Go.bits .and .i64 a3 7)))] rfl (by (try simp only [List.map_toArray, List.map_cons, List.map_nil]); first | done | rfl | (simp only [List.length_drop, List.length_take]; rfl)) ?_; (with_reducible refine (word_Do.calls k1 (wrap64 ((Go.bits .and .i64 a0 15) + 1)) 6 a1 (wrap64 ((wrap64 ((Go.bits .and .i64 a0 15) + 1)) + (Go.bits .and .i64 a3 7))) t146 t147 _ A19.out).mono ?_); rintro e w' ⟨rfl, ⟨nd, rfl⟩⟩; refine ⟨_, rfl, ?_⟩) | ((with_reducible refine gate_callee (f := 11) rfl ?_); refine goesL_ (some 112) rfl rfl Try.func11 (by kernel_rfl) rfl #[.int .i64 (wrap64 ((Go.bits .and .i64 a0 15) + 1)), .int .i64 7, .int .i64 a1, .int .i64 (Go.bits .and .i64 a3 31)] rfl (by (try simp only [List.map_toArray, List.map_cons, List.map_nil]); first | done | rfl | (simp only [List.length_drop, List.length_take]; rfl)) ?_; (with_reducible refine (word_Do.calls k1 (wrap64 ((Go.bits .and .i64 a0 15) + 1)) 7 a1 (Go.bits .and .i64 a3 31) t148 t149 _ A20.out).mono ?_); rintro e w' ⟨rfl, ⟨nd, rfl⟩⟩; refine ⟨_, rfl, ?_⟩) | ((with_reducible refine gate_callee (f := 12) rfl ?_); refine goesL_ (some 117) rfl rfl Try.func12 (by kernel_rfl) rfl #[.int .i64 (wrap64 ((Go.bits .and .i64 a0 15) + 1)), .int .i64 (Go.bits .and .i64 a3 31)] rfl (by (try simp only [List.map_toArray, List.map_cons, List.map_nil]); first | done | rfl | (simp only [List.length_drop, List.length_take]; rfl)) ?_; (with_reducible refine (word_Mask.calls (wrap64 ((Go.bits .and .i64 a0 15) + 1)) (Go.bits .and .i64 a3 31) t150 _ A21.out).mono ?_); rintro e w' ⟨rfl, ⟨nd, rfl⟩⟩; refine ⟨_, rfl, ?_⟩))
              go_ret
              exact ⟨by first | rfl | (simp [errW_none, errW_some] <;> rfl) | (simp [*, errW_none, errW_some] <;> rfl), by repeat (first | (with_reducible first | exact HB.out | apply below_alloc | apply pw_below_drewN | apply below_drew1) | exact HB.out)⟩
          · rw [if_neg c23] at H
            have c23b0 : (t144 == 0) = false := beq_eq_false_iff_ne.mpr c23
            have c23b1 : (t144 != 0) = true := bne_iff_ne.mpr c23
            obtain rfl := Option.some.inj H
            go_wp2_with (first | ((with_reducible refine gate_callee (f := 11) rfl ?_); refine goesL_ (some 95) rfl rfl Try.func11 (by kernel_rfl) rfl #[.int .i64 (wrap64 ((Go.bits .and .i64 a0 15) + 1)), .int .i64 6, .int .i64 a1, .int .i64 (Go.bits .and .i64 a3 31)] rfl (by (try simp only [List.map_toArray, List.map_cons, List.map_nil]); first | done | rfl | (simp only [List.length_drop, List.length_take]; rfl)) ?_; (with_reducible refine (word_Do.calls k1 (wrap64 ((Go.bits .and .i64 a0 15) + 1)) 6 a1 (Go.bits .and .i64 a3 31) t144 t145 _ A18.out).mono ?_); rintro e w' ⟨rfl, ⟨nd, rfl⟩⟩; refine ⟨_, rfl, ?_⟩) | ((with_reducible refine gate_callee (f := 11) rfl ?_); refine goesL_ (some 105) rfl rfl Try.func11 (by kernel_rfl) rfl #[.int .i64 (wrap64 ((Go.bits .and .i64 a0 15) + 1)), .int .i64 6, .int .i64 a1, .int .i64 (wrap64 ((wrap64 ((Go.bits .and .i64 a0 15) + 1)) + (Go.bits .and .i64 a3 7)))] rfl (by (try simp only [List.map_toArray, List.map_cons, List.map_nil]); first | done | rfl | (simp only [List.length_drop, List.length_take]; rfl)) ?_; (with_reducible refine (word_Do.calls k1 (wrap64 ((Go.bits .and .i64 a0 15) + 1)) 6 a1 (wrap64 ((wrap64 ((Go.bits .and .i64 a0 15) + 1)) + (Go.bits .and .i64 a3 7))) t146 t147 _ A19.out).mono ?_); rintro e w' ⟨rfl, ⟨nd, rfl⟩⟩; refine ⟨_, rfl, ?_⟩) | ((with_reducible refine gate_callee (f := 11) rfl ?_); refine goesL_ (some 112) rfl rfl Try.func11 (by kernel_rfl) rfl #[.int .i64 (wrap64 ((Go.bits .and .i64 a0 15) + 1)), .int .i64 7, .int .i64 a1, .int .i64 (Go.bits .and .i64 a3 31)] rfl (by (try simp only [List.map_toArray, List.map_cons, List.map_nil]); first | done | rfl | (simp only [List.length_drop, List.length_take]; rfl)) ?_; (with_reducible refine (word_Do.calls k1 (wrap64 ((Go.bits .and .i64 a0 15) + 1)) 7 a1 (Go.bits .and .i64 a3 31) t148 t149 _ A20.out).mono ?_); rintro e w' ⟨rfl, ⟨nd, rfl⟩⟩; refine ⟨_, rfl, ?_⟩) | ((with_reducible refine gate_callee (f := 12) rfl ?_); refine goesL_ (some 117) rfl rfl Try.func12 (by kernel_rfl) rfl #[.int .i64 (wrap64 ((Go.bits .and .i64 a0 15) + 1)), .int .i64 (Go.bits .and .i64 a3 31)] rfl (by (try simp only [List.map_toArray, List.map_cons, List.map_nil]); first | done | rfl | (simp only [List.length_drop, List.length_take]; rfl)) ?_; (with_reducible refine (word_Mask.calls (wrap64 ((Go.bits .and .i64 a0 15) + 1)) (Go.bits .and .i64 a3 31) t150 _ A21.out).mono ?_); rintro e w' ⟨rfl, ⟨nd, rfl⟩⟩; refine ⟨_, rfl, ?_⟩))
            go_ret
            exact ⟨by first | rfl | (simp [errW_none, errW_some] <;> rfl) | (simp [*, errW_none, errW_some] <;> rfl), by repeat (first | (with_reducible first | exact HB.out | apply below_alloc | apply pw_below_drewN | apply below_drew1) | exact HB.out)⟩
        · rw [if_neg c22] at H
          have c22b0 : decide ((wrap64 ((Go.bits .and .i64 a0 15) + 1)) ≤ t150) = false := decide_eq_false c22
          clear c22
          replace H := Option.bind_eq_some_iff.mp H
          obtain ⟨⟨t152, t153⟩, A260, H⟩ := H
          replace H : ((word_Mask.f (wrap64 ((wrap64 ((Go.bits .and .i64 a0 15) + 1)) - t150)) a1).bind fun t154 => (if 0 ≤ (IntKind.u64.wrap (wrap64 ((wrap64 ((Go.bits .and .i64 a0 15) + 1)) - t150))) then (if t152 = (Go.bits .and .i64 t154 (wrap64 ((shl .i64 1 (IntKind.u64.wrap (wrap64 ((wrap64 ((Go.bits .and .i64 a0 15) + 1)) - t150)))) - 1))) then ((word_Mask.f (wrap64 ((Go.bits .and .i64 a0 15) + 1)) a1).bind fun t155 => (if 0 ≤ (IntKind.u64.wrap (t150)) then (if t148 = (shr .i64 t155 (IntKind.u64.wrap (t150))) then ((word_Mask.f (wrap64 ((Go.bits .and .i64 a0 15) + 1)) (wrap64 ((wrap64 ((Go.bits .and .i64 a0 15) + 1)) + (Go.bits .and .i64 a3 7)))).bind fun t156 => (if t156 < (wrap64 ((Go.bits .and .i64 a0 15) + 1)) then ((augurylaw1_awake.f k1).bind fun t157 => (some t157)) else (if t146 = 0 then ((augurylaw1_awake.f k1).bind fun t158 => (some t158)) else (some false)))) else (some false)) else (none))) else (some false)) else (none))) = some r := H
          have A26 := Aside0.mk A260
          clear A260
          replace H := Option.bind_eq_some_iff.mp H
          obtain ⟨t154, A270, H⟩ := H
          replace H : (if 0 ≤ (IntKind.u64.wrap (wrap64 ((wrap64 ((Go.bits .and .i64 a0 15) + 1)) - t150))) then (if t152 = (Go.bits .and .i64 t154 (wrap64 ((shl .i64 1 (IntKind.u64.wrap (wrap64 ((wrap64 ((Go.bits .and .i64 a0 15) + 1)) - t150)))) - 1))) then ((word_Mask.f (wrap64 ((Go.bits .and .i64 a0 15) + 1)) a1).bind fun t155 => (if 0 ≤ (IntKind.u64.wrap (t150)) then (if t148 = (shr .i64 t155 (IntKind.u64.wrap (t150))) then ((word_Mask.f (wrap64 ((Go.bits .and .i64 a0 15) + 1)) (wrap64 ((wrap64 ((Go.bits .and .i64 a0 15) + 1)) + (Go.bits .and .i64 a3 7)))).bind fun t156 => (if t156 < (wrap64 ((Go.bits .and .i64 a0 15) + 1)) then ((augurylaw1_awake.f k1).bind fun t157 => (some t157)) else (if t146 = 0 then ((augurylaw1_awake.f k1).bind fun t158 => (some t158)) else (some false)))) else (some false)) else (none))) else (some false)) else (none)) = some r := H
          have A27 := Aside0.mk A270
          clear A270
          obtain ⟨ji28, hji28⟩ : ∃ j_ : Int, (IntKind.u64.wrap (wrap64 ((wrap64 ((Go.bits .and .i64 a0 15) + 1)) - t150))) = j_ := ⟨_, rfl⟩
          replace H : (if 0 ≤ (ji28) then (if t152 = (Go.bits .and .i64 t154 (wrap64 ((shl .i64 1 (ji28)) - 1))) then ((word_Mask.f (wrap64 ((Go.bits .and .i64 a0 15) + 1)) a1).bind fun t155 => (if 0 ≤ (IntKind.u64.wrap (t150)) then (if t148 = (shr .i64 t155 (IntKind.u64.wrap (t150))) then ((word_Mask.f (wrap64 ((Go.bits .and .i64 a0 15) + 1)) (wrap64 ((wrap64 ((Go.bits .and .i64 a0 15) + 1)) + (Go.bits .and .i64 a3 7)))).bind fun t156 => (if t156 < (wrap64 ((Go.bits .and .i64 a0 15) + 1)) then ((augurylaw1_awake.f k1).bind fun t157 => (some t157)) else (if t146 = 0 then ((augurylaw1_awake.f k1).bind fun t158 => (some t158)) else (some false)))) else (some false)) else (none))) else (some false)) else (none)) = some r := by first | (rw [hji28] at H; exact H) | (simp only [hji28] at H ⊢; exact H)
          (try rw [hji28] at A18)
          (try rw [hji28] at A19)
          (try rw [hji28] at A20)
          (try rw [hji28] at A21)
          (try rw [hji28] at A26)
          (try rw [hji28] at A27)
          by_cases c29 : 0 ≤ (ji28)
          · rw [if_pos c29] at H
            have c29b0 := eq_true c29
            have c29b1 : decide (0 ≤ (ji28)) = true := decide_eq_true c29
            clear c29
            obtain ⟨ji30, hji30⟩ : ∃ j_ : Int, (shl .i64 1 (ji28)) = j_ := ⟨_, rfl⟩
            replace H : (if t152 = (Go.bits .and .i64 t154 (wrap64 ((ji30) - 1))) then ((word_Mask.f (wrap64 ((Go.bits .and .i64 a0 15) + 1)) a1).bind fun t155 => (if 0 ≤ (IntKind.u64.wrap (t150)) then (if t148 = (shr .i64 t155 (IntKind.u64.wrap (t150))) then ((word_Mask.f (wrap64 ((Go.bits .and .i64 a0 15) + 1)) (wrap64 ((wrap64 ((Go.bits .and .i64 a0 15) + 1)) + (Go.bits .and .i64 a3 7)))).bind fun t156 => (if t156 < (wrap64 ((Go.bits .and .i64 a0 15) + 1)) then ((augurylaw1_awake.f k1).bind fun t157 => (some t157)) else (if t146 = 0 then ((augurylaw1_awake.f k1).bind fun t158 => (some t158)) else (some false)))) else (some false)) else (none))) else (some false)) = some r := by first | (rw [hji30] at H; exact H) | (simp only [hji30] at H ⊢; exact H)
            (try rw [hji30] at A18)
            (try rw [hji30] at A19)
            (try rw [hji30] at A20)
            (try rw [hji30] at A21)
            (try rw [hji30] at A26)
            (try rw [hji30] at A27)
            have hji30_ : (IntKind.i64.wrap (1 * 2 ^ min (ji28).toNat 64)) = ji30 := hji30
            have hji30z : (ji28) ≤ 64 → (IntKind.i64.wrap (1 * 2 ^ (ji28).toNat)) = ji30 := shl_small hji30
            have hji30u : (IntKind.i64.wrap (2 ^ min (ji28).toNat 64)) = ji30 := by have h_ := hji30_; rw [Int.one_mul] at h_; exact h_
            have hji30v : (ji28) ≤ 64 → (IntKind.i64.wrap (2 ^ (ji28).toNat)) = ji30 := fun hle_ => by have h_ := hji30z hle_; rw [Int.one_mul] at h_; exact h_
            have hji30y : (wrap64 (1 * 2 ^ min (ji28).toNat 64)) = ji30 := (i64_w _).symm.trans hji30_
            have hji30x : (ji28) ≤ 64 → (wrap64 (1 * 2 ^ (ji28).toNat)) = ji30 := fun h_ => (i64_w _).symm.trans (hji30z h_)
            by_cases c31 : t152 = (Go.bits .and .i64 t154 (wrap64 ((ji30) - 1)))
            · rw [if_pos c31] at H
              have c31b0 : (t152 == (Go.bits .and .i64 t154 (wrap64 ((ji30) - 1)))) = true := beq_iff_eq.mpr c31
              have c31b1 : (t152 != (Go.bits .and .i64 t154 (wrap64 ((ji30) - 1)))) = false := bne_eq_false_iff_eq.mpr c31
              clear c31
              replace H := Option.bind_eq_some_iff.mp H
              obtain ⟨t155, A320, H⟩ := H
              replace H : (if 0 ≤ (IntKind.u64.wrap (t150)) then (if t148 = (shr .i64 t155 (IntKind.u64.wrap (t150))) then ((word_Mask.f (wrap64 ((Go.bits .and .i64 a0 15) + 1)) (wrap64 ((wrap64 ((Go.bits .and .i64 a0 15) + 1)) + (Go.bits .and .i64 a3 7)))).bind fun t156 => (if t156 < (wrap64 ((Go.bits .and .i64 a0 15) + 1)) then ((augurylaw1_awake.f k1).bind fun t157 => (some t157)) else (if t146 = 0 then ((augurylaw1_awake.f k1).bind fun t158 => (some t158)) else (some false)))) else (some false)) else (none)) = some r := H
              have A32 := Aside0.mk A320
              clear A320
              obtain ⟨ji33, hji33⟩ : ∃ j_ : Int, (IntKind.u64.wrap (t150)) = j_ := ⟨_, rfl⟩
              replace H : (if 0 ≤ (ji33) then (if t148 = (shr .i64 t155 (ji33)) then ((word_Mask.f (wrap64 ((Go.bits .and .i64 a0 15) + 1)) (wrap64 ((wrap64 ((Go.bits .and .i64 a0 15) + 1)) + (Go.bits .and .i64 a3 7)))).bind fun t156 => (if t156 < (wrap64 ((Go.bits .and .i64 a0 15) + 1)) then ((augurylaw1_awake.f k1).bind fun t157 => (some t157)) else (if t146 = 0 then ((augurylaw1_awake.f k1).bind fun t158 => (some t158)) else (some false)))) else (some false)) else (none)) = some r := by first | (rw [hji33] at H; exact H) | (simp only [hji33] at H ⊢; exact H)
              (try rw [hji33] at A18)
              (try rw [hji33] at A19)
              (try rw [hji33] at A20)
              (try rw [hji33] at A21)
              (try rw [hji33] at A26)
              (try rw [hji33] at A27)
              (try rw [hji33] at A32)
              by_cases c34 : 0 ≤ (ji33)
              · rw [if_pos c34] at H
                have c34b0 := eq_true c34
                have c34b1 : decide (0 ≤ (ji33)) = true := decide_eq_true c34
                clear c34
                obtain ⟨ji35, hji35⟩ : ∃ j_ : Int, (shr .i64 t155 (ji33)) = j_ := ⟨_, rfl⟩
                replace H : (if t148 = (ji35) then ((word_Mask.f (wrap64 ((Go.bits .and .i64 a0 15) + 1)) (wrap64 ((wrap64 ((Go.bits .and .i64 a0 15) + 1)) + (Go.bits .and .i64 a3 7)))).bind fun t156 => (if t156 < (wrap64 ((Go.bits .and .i64 a0 15) + 1)) then ((augurylaw1_awake.f k1).bind fun t157 => (some t157)) else (if t146 = 0 then ((augurylaw1_awake.f k1).bind fun t158 => (some t158)) else (some false)))) else (some false)) = some r := by first | (rw [hji35] at H; exact H) | (simp only [hji35] at H ⊢; exact H)
                (try rw [hji35] at A18)
                (try rw [hji35] at A19)
                (try rw [hji35] at A20)
                (try rw [hji35] at A21)
                (try rw [hji35] at A26)
                (try rw [hji35] at A27)
                (try rw [hji35] at A32)
                have hji35_ : (t155 / 2 ^ min (ji33).toNat 64) = ji35 := hji35
                have hji35z : (ji33) ≤ 64 → (t155 / 2 ^ (ji33).toNat) = ji35 := shr_small hji35
                by_cases c36 : t148 = (ji35)
                · rw [if_pos c36] at H
                  have c36b0 : (t148 == (ji35)) = true := beq_iff_eq.mpr c36
                  have c36b1 : (t148 != (ji35)) = false := bne_eq_false_iff_eq.mpr c36
                  clear c36
                  replace H := Option.bind_eq_some_iff.mp H
                  obtain ⟨t156, A370, H⟩ := H
                  replace H : (if t156 < (wrap64 ((Go.bits .and .i64 a0 15) + 1)) then ((augurylaw1_awake.f k1).bind fun t157 => (some t157)) else (if t146 = 0 then ((augurylaw1_awake.f k1).bind fun t158 => (some t158)) else (some false))) = some r := H
                  have A37 := Aside0.mk A370
                  clear A370
                  by_cases c38 : t156 < (wrap64 ((Go.bits .and .i64 a0 15) + 1))
                  · rw [if_pos c38] at H
                    have c38b0 : decide (t156 < (wrap64 ((Go.bits .and .i64 a0 15) + 1))) = true := decide_eq_true c38
                    clear c38
                    replace H := Option.bind_eq_some_iff.mp H
                    obtain ⟨t157, A390, H⟩ := H
                    replace H : (some t157) = some r := H
                    have A39 := Aside0.mk A390
                    clear A390
                    obtain rfl := Option.some.inj H
                    go_wp2_with (first | ((with_reducible refine gate_callee (f := 11) rfl ?_); refine goesL_ (some 95) rfl rfl Try.func11 (by kernel_rfl) rfl #[.int .i64 (wrap64 ((Go.bits .and .i64 a0 15) + 1)), .int .i64 6, .int .i64 a1, .int .i64 (Go.bits .and .i64 a3 31)] rfl (by (try simp only [List.map_toArray, List.map_cons, List.map_nil]); first | done | rfl | (simp only [List.length_drop, List.length_take]; rfl)) ?_; (with_reducible refine (word_Do.calls k1 (wrap64 ((Go.bits .and .i64 a0 15) + 1)) 6 a1 (Go.bits .and .i64 a3 31) t144 t145 _ A18.out).mono ?_); rintro e w' ⟨rfl, ⟨nd, rfl⟩⟩; refine ⟨_, rfl, ?_⟩) | ((with_reducible refine gate_callee (f := 11) rfl ?_); refine goesL_ (some 105) rfl rfl Try.func11 (by kernel_rfl) rfl #[.int .i64 (wrap64 ((Go.bits .and .i64 a0 15) + 1)), .int .i64 6, .int .i64 a1, .int .i64 (wrap64 ((wrap64 ((Go.bits .and .i64 a0 15) + 1)) + (Go.bits .and .i64 a3 7)))] rfl (by (try simp only [List.map_toArray, List.map_cons, List.map_nil]); first | done | rfl | (simp only [List.length_drop, List.length_take]; rfl)) ?_; (with_reducible refine (word_Do.calls k1 (wrap64 ((Go.bits .and .i64 a0 15) + 1)) 6 a1 (wrap64 ((wrap64 ((Go.bits .and .i64 a0 15) + 1)) + (Go.bits .and .i64 a3 7))) t146 t147 _ A19.out).mono ?_); rintro e w' ⟨rfl, ⟨nd, rfl⟩⟩; refine ⟨_, rfl, ?_⟩) | ((with_reducible refine gate_callee (f := 11) rfl ?_); refine goesL_ (some 112) rfl rfl Try.func11 (by kernel_rfl) rfl #[.int .i64 (wrap64 ((Go.bits .and .i64 a0 15) + 1)), .int .i64 7, .int .i64 a1, .int .i64 (Go.bits .and .i64 a3 31)] rfl (by (try simp only [List.map_toArray, List.map_cons, List.map_nil]); first | done | rfl | (simp only [List.length_drop, List.length_take]; rfl)) ?_; (with_reducible refine (word_Do.calls k1 (wrap64 ((Go.bits .and .i64 a0 15) + 1)) 7 a1 (Go.bits .and .i64 a3 31) t148 t149 _ A20.out).mono ?_); rintro e w' ⟨rfl, ⟨nd, rfl⟩⟩; refine ⟨_, rfl, ?_⟩) | ((with_reducible refine gate_callee (f := 12) rfl ?_); refine goesL_ (some 117) rfl rfl Try.func12 (by kernel_rfl) rfl #[.int .i64 (wrap64 ((Go.bits .and .i64 a0 15) + 1)), .int .i64 (Go.bits .and .i64 a3 31)] rfl (by (try simp only [List.map_toArray, List.map_cons, List.map_nil]); first | done | rfl | (simp only [List.length_drop, List.length_take]; rfl)) ?_; (with_reducible refine (word_Mask.calls (wrap64 ((Go.bits .and .i64 a0 15) + 1)) (Go.bits .and .i64 a3 31) t150 _ A21.out).mono ?_); rintro e w' ⟨rfl, ⟨nd, rfl⟩⟩; refine ⟨_, rfl, ?_⟩) | ((with_reducible refine gate_callee (f := 11) rfl ?_); refine goesL_ (some 134) rfl rfl Try.func11 (by kernel_rfl) rfl #[.int .i64 (wrap64 ((Go.bits .and .i64 a0 15) + 1)), .int .i64 7, .int .i64 t144, .int .i64 (Go.bits .and .i64 a3 31)] rfl (by (try simp only [List.map_toArray, List.map_cons, List.map_nil]); first | done | rfl | (simp only [List.length_drop, List.length_take]; rfl)) ?_; (with_reducible refine (word_Do.calls k1 (wrap64 ((Go.bits .and .i64 a0 15) + 1)) 7 t144 (Go.bits .and .i64 a3 31) t152 t153 _ A26.out).mono ?_); rintro e w' ⟨rfl, ⟨nd, rfl⟩⟩; refine ⟨_, rfl, ?_⟩) | ((with_reducible refine gate_callee (f := 12) rfl ?_); refine goesL_ (some 142) rfl rfl Try.func12 (by kernel_rfl) rfl #[.int .i64 (wrap64 ((wrap64 ((Go.bits .and .i64 a0 15) + 1)) - t150)), .int .i64 a1] rfl (by (try simp only [List.map_toArray, List.map_cons, List.map_nil]); first | done | rfl | (simp only [List.length_drop, List.length_take]; rfl)) ?_; (with_reducible refine (word_Mask.calls (wrap64 ((wrap64 ((Go.bits .and .i64 a0 15) + 1)) - t150)) a1 t154 _ A27.out).mono ?_); rintro e w' ⟨rfl, ⟨nd, rfl⟩⟩; refine ⟨_, rfl, ?_⟩) | (go_at_call 12; (with_reducible refine (word_Mask.calls (wrap64 ((Go.bits .and .i64 a0 15) + 1)) a1 t155 _ A32.out).mono ?_); rintro e w' ⟨rfl, ⟨nd, rfl⟩⟩) | (go_at_call 12; (with_reducible refine (word_Mask.calls (wrap64 ((Go.bits .and .i64 a0 15) + 1)) (wrap64 ((wrap64 ((Go.bits .and .i64 a0 15) + 1)) + (Go.bits .and .i64 a3 7))) t156 _ A37.out).mono ?_); rintro e w' ⟨rfl, ⟨nd, rfl⟩⟩) | (go_at_call 13; (with_reducible refine (augurylaw1_awake.calls k1  t157 _ A39.out).mono ?_); rintro e w' ⟨rfl, ⟨nd, rfl⟩⟩))
                    go_ret
                    exact ⟨by first | rfl | (simp [errW_none, errW_some] <;> rfl) | (simp only [← hji28, ← hji30, ← hji33, ← hji35]; first | rfl | (simp [errW_none, errW_some] <;> rfl)) | (simp [*, errW_none, errW_some] <;> rfl), by repeat (first | (with_reducible first | exact HB.out | apply below_alloc | apply pw_below_drewN | apply below_drew1) | exact HB.out)⟩
                  · rw [if_neg c38] at H
                    have c38b0 : decide (t156 < (wrap64 ((Go.bits .and .i64 a0 15) + 1))) = false := decide_eq_false c38
                    clear c38
                    by_cases c40 : t146 = 0
                    · rw [if_pos c40] at H
                      have c40b0 : (t146 == 0) = true := beq_iff_eq.mpr c40
                      have c40b1 : (t146 != 0) = false := bne_eq_false_iff_eq.mpr c40
                      clear c40
                      replace H := Option.bind_eq_some_iff.mp H
                      obtain ⟨t158, A410, H⟩ := H
                      replace H : (some t158) = some r := H
                      have A41 := Aside0.mk A410
                      clear A410
                      obtain rfl := Option.some.inj H
                      go_wp2_with (first | ((with_reducible refine gate_callee (f := 11) rfl ?_); refine goesL_ (some 95) rfl rfl Try.func11 (by kernel_rfl) rfl #[.int .i64 (wrap64 ((Go.bits .and .i64 a0 15) + 1)), .int .i64 6, .int .i64 a1, .int .i64 (Go.bits .and .i64 a3 31)] rfl (by (try simp only [List.map_toArray, List.map_cons, List.map_nil]); first | done | rfl | (simp only [List.length_drop, List.length_take]; rfl)) ?_; (with_reducible refine (word_Do.calls k1 (wrap64 ((Go.bits .and .i64 a0 15) + 1)) 6 a1 (Go.bits .and .i64 a3 31) t144 t145 _ A18.out).mono ?_); rintro e w' ⟨rfl, ⟨nd, rfl⟩⟩; refine ⟨_, rfl, ?_⟩) | ((with_reducible refine gate_callee (f := 11) rfl ?_); refine goesL_ (some 105) rfl rfl Try.func11 (by kernel_rfl) rfl #[.int .i64 (wrap64 ((Go.bits .and .i64 a0 15) + 1)), .int .i64 6, .int .i64 a1, .int .i64 (wrap64 ((wrap64 ((Go.bits .and .i64 a0 15) + 1)) + (Go.bits .and .i64 a3 7)))] rfl (by (try simp only [List.map_toArray, List.map_cons, List.map_nil]); first | done | rfl | (simp only [List.length_drop, List.length_take]; rfl)) ?_; (with_reducible refine (word_Do.calls k1 (wrap64 ((Go.bits .and .i64 a0 15) + 1)) 6 a1 (wrap64 ((wrap64 ((Go.bits .and .i64 a0 15) + 1)) + (Go.bits .and .i64 a3 7))) t146 t147 _ A19.out).mono ?_); rintro e w' ⟨rfl, ⟨nd, rfl⟩⟩; refine ⟨_, rfl, ?_⟩) | ((with_reducible refine gate_callee (f := 11) rfl ?_); refine goesL_ (some 112) rfl rfl Try.func11 (by kernel_rfl) rfl #[.int .i64 (wrap64 ((Go.bits .and .i64 a0 15) + 1)), .int .i64 7, .int .i64 a1, .int .i64 (Go.bits .and .i64 a3 31)] rfl (by (try simp only [List.map_toArray, List.map_cons, List.map_nil]); first | done | rfl | (simp only [List.length_drop, List.length_take]; rfl)) ?_; (with_reducible refine (word_Do.calls k1 (wrap64 ((Go.bits .and .i64 a0 15) + 1)) 7 a1 (Go.bits .and .i64 a3 31) t148 t149 _ A20.out).mono ?_); rintro e w' ⟨rfl, ⟨nd, rfl⟩⟩; refine ⟨_, rfl, ?_⟩) | ((with_reducible refine gate_callee (f := 12) rfl ?_); refine goesL_ (some 117) rfl rfl Try.func12 (by kernel_rfl) rfl #[.int .i64 (wrap64 ((Go.bits .and .i64 a0 15) + 1)), .int .i64 (Go.bits .and .i64 a3 31)] rfl (by (try simp only [List.map_toArray, List.map_cons, List.map_nil]); first | done | rfl | (simp only [List.length_drop, List.length_take]; rfl)) ?_; (with_reducible refine (word_Mask.calls (wrap64 ((Go.bits .and .i64 a0 15) + 1)) (Go.bits .and .i64 a3 31) t150 _ A21.out).mono ?_); rintro e w' ⟨rfl, ⟨nd, rfl⟩⟩; refine ⟨_, rfl, ?_⟩) | ((with_reducible refine gate_callee (f := 11) rfl ?_); refine goesL_ (some 134) rfl rfl Try.func11 (by kernel_rfl) rfl #[.int .i64 (wrap64 ((Go.bits .and .i64 a0 15) + 1)), .int .i64 7, .int .i64 t144, .int .i64 (Go.bits .and .i64 a3 31)] rfl (by (try simp only [List.map_toArray, List.map_cons, List.map_nil]); first | done | rfl | (simp only [List.length_drop, List.length_take]; rfl)) ?_; (with_reducible refine (word_Do.calls k1 (wrap64 ((Go.bits .and .i64 a0 15) + 1)) 7 t144 (Go.bits .and .i64 a3 31) t152 t153 _ A26.out).mono ?_); rintro e w' ⟨rfl, ⟨nd, rfl⟩⟩; refine ⟨_, rfl, ?_⟩) | ((with_reducible refine gate_callee (f := 12) rfl ?_); refine goesL_ (some 142) rfl rfl Try.func12 (by kernel_rfl) rfl #[.int .i64 (wrap64 ((wrap64 ((Go.bits .and .i64 a0 15) + 1)) - t150)), .int .i64 a1] rfl (by (try simp only [List.map_toArray, List.map_cons, List.map_nil]); first | done | rfl | (simp only [List.length_drop, List.length_take]; rfl)) ?_; (with_reducible refine (word_Mask.calls (wrap64 ((wrap64 ((Go.bits .and .i64 a0 15) + 1)) - t150)) a1 t154 _ A27.out).mono ?_); rintro e w' ⟨rfl, ⟨nd, rfl⟩⟩; refine ⟨_, rfl, ?_⟩) | (go_at_call 12; (with_reducible refine (word_Mask.calls (wrap64 ((Go.bits .and .i64 a0 15) + 1)) a1 t155 _ A32.out).mono ?_); rintro e w' ⟨rfl, ⟨nd, rfl⟩⟩) | (go_at_call 12; (with_reducible refine (word_Mask.calls (wrap64 ((Go.bits .and .i64 a0 15) + 1)) (wrap64 ((wrap64 ((Go.bits .and .i64 a0 15) + 1)) + (Go.bits .and .i64 a3 7))) t156 _ A37.out).mono ?_); rintro e w' ⟨rfl, ⟨nd, rfl⟩⟩) | (go_at_call 13; (with_reducible refine (augurylaw1_awake.calls k1  t158 _ A41.out).mono ?_); rintro e w' ⟨rfl, ⟨nd, rfl⟩⟩))
                      go_ret
                      exact ⟨by first | rfl | (simp [errW_none, errW_some] <;> rfl) | (simp only [← hji28, ← hji30, ← hji33, ← hji35]; first | rfl | (simp [errW_none, errW_some] <;> rfl)) | (simp [*, errW_none, errW_some] <;> rfl), by repeat (first | (with_reducible first | exact HB.out | apply below_alloc | apply pw_below_drewN | apply below_drew1) | exact HB.out)⟩
                    · rw [if_neg c40] at H
                      have c40b0 : (t146 == 0) = false := beq_eq_false_iff_ne.mpr c40
                      have c40b1 : (t146 != 0) = true := bne_iff_ne.mpr c40
                      obtain rfl := Option.some.inj H
                      go_wp2_with (first | ((with_reducible refine gate_callee (f := 11) rfl ?_); refine goesL_ (some 95) rfl rfl Try.func11 (by kernel_rfl) rfl #[.int .i64 (wrap64 ((Go.bits .and .i64 a0 15) + 1)), .int .i64 6, .int .i64 a1, .int .i64 (Go.bits .and .i64 a3 31)] rfl (by (try simp only [List.map_toArray, List.map_cons, List.map_nil]); first | done | rfl | (simp only [List.length_drop, List.length_take]; rfl)) ?_; (with_reducible refine (word_Do.calls k1 (wrap64 ((Go.bits .and .i64 a0 15) + 1)) 6 a1 (Go.bits .and .i64 a3 31) t144 t145 _ A18.out).mono ?_); rintro e w' ⟨rfl, ⟨nd, rfl⟩⟩; refine ⟨_, rfl, ?_⟩) | ((with_reducible refine gate_callee (f := 11) rfl ?_); refine goesL_ (some 105) rfl rfl Try.func11 (by kernel_rfl) rfl #[.int .i64 (wrap64 ((Go.bits .and .i64 a0 15) + 1)), .int .i64 6, .int .i64 a1, .int .i64 (wrap64 ((wrap64 ((Go.bits .and .i64 a0 15) + 1)) + (Go.bits .and .i64 a3 7)))] rfl (by (try simp only [List.map_toArray, List.map_cons, List.map_nil]); first | done | rfl | (simp only [List.length_drop, List.length_take]; rfl)) ?_; (with_reducible refine (word_Do.calls k1 (wrap64 ((Go.bits .and .i64 a0 15) + 1)) 6 a1 (wrap64 ((wrap64 ((Go.bits .and .i64 a0 15) + 1)) + (Go.bits .and .i64 a3 7))) t146 t147 _ A19.out).mono ?_); rintro e w' ⟨rfl, ⟨nd, rfl⟩⟩; refine ⟨_, rfl, ?_⟩) | ((with_reducible refine gate_callee (f := 11) rfl ?_); refine goesL_ (some 112) rfl rfl Try.func11 (by kernel_rfl) rfl #[.int .i64 (wrap64 ((Go.bits .and .i64 a0 15) + 1)), .int .i64 7, .int .i64 a1, .int .i64 (Go.bits .and .i64 a3 31)] rfl (by (try simp only [List.map_toArray, List.map_cons, List.map_nil]); first | done | rfl | (simp only [List.length_drop, List.length_take]; rfl)) ?_; (with_reducible refine (word_Do.calls k1 (wrap64 ((Go.bits .and .i64 a0 15) + 1)) 7 a1 (Go.bits .and .i64 a3 31) t148 t149 _ A20.out).mono ?_); rintro e w' ⟨rfl, ⟨nd, rfl⟩⟩; refine ⟨_, rfl, ?_⟩) | ((with_reducible refine gate_callee (f := 12) rfl ?_); refine goesL_ (some 117) rfl rfl Try.func12 (by kernel_rfl) rfl #[.int .i64 (wrap64 ((Go.bits .and .i64 a0 15) + 1)), .int .i64 (Go.bits .and .i64 a3 31)] rfl (by (try simp only [List.map_toArray, List.map_cons, List.map_nil]); first | done | rfl | (simp only [List.length_drop, List.length_take]; rfl)) ?_; (with_reducible refine (word_Mask.calls (wrap64 ((Go.bits .and .i64 a0 15) + 1)) (Go.bits .and .i64 a3 31) t150 _ A21.out).mono ?_); rintro e w' ⟨rfl, ⟨nd, rfl⟩⟩; refine ⟨_, rfl, ?_⟩) | ((with_reducible refine gate_callee (f := 11) rfl ?_); refine goesL_ (some 134) rfl rfl Try.func11 (by kernel_rfl) rfl #[.int .i64 (wrap64 ((Go.bits .and .i64 a0 15) + 1)), .int .i64 7, .int .i64 t144, .int .i64 (Go.bits .and .i64 a3 31)] rfl (by (try simp only [List.map_toArray, List.map_cons, List.map_nil]); first | done | rfl | (simp only [List.length_drop, List.length_take]; rfl)) ?_; (with_reducible refine (word_Do.calls k1 (wrap64 ((Go.bits .and .i64 a0 15) + 1)) 7 t144 (Go.bits .and .i64 a3 31) t152 t153 _ A26.out).mono ?_); rintro e w' ⟨rfl, ⟨nd, rfl⟩⟩; refine ⟨_, rfl, ?_⟩) | ((with_reducible refine gate_callee (f := 12) rfl ?_); refine goesL_ (some 142) rfl rfl Try.func12 (by kernel_rfl) rfl #[.int .i64 (wrap64 ((wrap64 ((Go.bits .and .i64 a0 15) + 1)) - t150)), .int .i64 a1] rfl (by (try simp only [List.map_toArray, List.map_cons, List.map_nil]); first | done | rfl | (simp only [List.length_drop, List.length_take]; rfl)) ?_; (with_reducible refine (word_Mask.calls (wrap64 ((wrap64 ((Go.bits .and .i64 a0 15) + 1)) - t150)) a1 t154 _ A27.out).mono ?_); rintro e w' ⟨rfl, ⟨nd, rfl⟩⟩; refine ⟨_, rfl, ?_⟩) | (go_at_call 12; (with_reducible refine (word_Mask.calls (wrap64 ((Go.bits .and .i64 a0 15) + 1)) a1 t155 _ A32.out).mono ?_); rintro e w' ⟨rfl, ⟨nd, rfl⟩⟩) | (go_at_call 12; (with_reducible refine (word_Mask.calls (wrap64 ((Go.bits .and .i64 a0 15) + 1)) (wrap64 ((wrap64 ((Go.bits .and .i64 a0 15) + 1)) + (Go.bits .and .i64 a3 7))) t156 _ A37.out).mono ?_); rintro e w' ⟨rfl, ⟨nd, rfl⟩⟩))
                      go_ret
                      exact ⟨by first | rfl | (simp [errW_none, errW_some] <;> rfl) | (simp only [← hji28, ← hji30, ← hji33, ← hji35]; first | rfl | (simp [errW_none, errW_some] <;> rfl)) | (simp [*, errW_none, errW_some] <;> rfl), by repeat (first | (with_reducible first | exact HB.out | apply below_alloc | apply pw_below_drewN | apply below_drew1) | exact HB.out)⟩
                · rw [if_neg c36] at H
                  have c36b0 : (t148 == (ji35)) = false := beq_eq_false_iff_ne.mpr c36
                  have c36b1 : (t148 != (ji35)) = true := bne_iff_ne.mpr c36
                  obtain rfl := Option.some.inj H
                  go_wp2_with (first | ((with_reducible refine gate_callee (f := 11) rfl ?_); refine goesL_ (some 95) rfl rfl Try.func11 (by kernel_rfl) rfl #[.int .i64 (wrap64 ((Go.bits .and .i64 a0 15) + 1)), .int .i64 6, .int .i64 a1, .int .i64 (Go.bits .and .i64 a3 31)] rfl (by (try simp only [List.map_toArray, List.map_cons, List.map_nil]); first | done | rfl | (simp only [List.length_drop, List.length_take]; rfl)) ?_; (with_reducible refine (word_Do.calls k1 (wrap64 ((Go.bits .and .i64 a0 15) + 1)) 6 a1 (Go.bits .and .i64 a3 31) t144 t145 _ A18.out).mono ?_); rintro e w' ⟨rfl, ⟨nd, rfl⟩⟩; refine ⟨_, rfl, ?_⟩) | ((with_reducible refine gate_callee (f := 11) rfl ?_); refine goesL_ (some 105) rfl rfl Try.func11 (by kernel_rfl) rfl #[.int .i64 (wrap64 ((Go.bits .and .i64 a0 15) + 1)), .int .i64 6, .int .i64 a1, .int .i64 (wrap64 ((wrap64 ((Go.bits .and .i64 a0 15) + 1)) + (Go.bits .and .i64 a3 7)))] rfl (by (try simp only [List.map_toArray, List.map_cons, List.map_nil]); first | done | rfl | (simp only [List.length_drop, List.length_take]; rfl)) ?_; (with_reducible refine (word_Do.calls k1 (wrap64 ((Go.bits .and .i64 a0 15) + 1)) 6 a1 (wrap64 ((wrap64 ((Go.bits .and .i64 a0 15) + 1)) + (Go.bits .and .i64 a3 7))) t146 t147 _ A19.out).mono ?_); rintro e w' ⟨rfl, ⟨nd, rfl⟩⟩; refine ⟨_, rfl, ?_⟩) | ((with_reducible refine gate_callee (f := 11) rfl ?_); refine goesL_ (some 112) rfl rfl Try.func11 (by kernel_rfl) rfl #[.int .i64 (wrap64 ((Go.bits .and .i64 a0 15) + 1)), .int .i64 7, .int .i64 a1, .int .i64 (Go.bits .and .i64 a3 31)] rfl (by (try simp only [List.map_toArray, List.map_cons, List.map_nil]); first | done | rfl | (simp only [List.length_drop, List.length_take]; rfl)) ?_; (with_reducible refine (word_Do.calls k1 (wrap64 ((Go.bits .and .i64 a0 15) + 1)) 7 a1 (Go.bits .and .i64 a3 31) t148 t149 _ A20.out).mono ?_); rintro e w' ⟨rfl, ⟨nd, rfl⟩⟩; refine ⟨_, rfl, ?_⟩) | ((with_reducible refine gate_callee (f := 12) rfl ?_); refine goesL_ (some 117) rfl rfl Try.func12 (by kernel_rfl) rfl #[.int .i64 (wrap64 ((Go.bits .and .i64 a0 15) + 1)), .int .i64 (Go.bits .and .i64 a3 31)] rfl (by (try simp only [List.map_toArray, List.map_cons, List.map_nil]); first | done | rfl | (simp only [List.length_drop, List.length_take]; rfl)) ?_; (with_reducible refine (word_Mask.calls (wrap64 ((Go.bits .and .i64 a0 15) + 1)) (Go.bits .and .i64 a3 31) t150 _ A21.out).mono ?_); rintro e w' ⟨rfl, ⟨nd, rfl⟩⟩; refine ⟨_, rfl, ?_⟩) | ((with_reducible refine gate_callee (f := 11) rfl ?_); refine goesL_ (some 134) rfl rfl Try.func11 (by kernel_rfl) rfl #[.int .i64 (wrap64 ((Go.bits .and .i64 a0 15) + 1)), .int .i64 7, .int .i64 t144, .int .i64 (Go.bits .and .i64 a3 31)] rfl (by (try simp only [List.map_toArray, List.map_cons, List.map_nil]); first | done | rfl | (simp only [List.length_drop, List.length_take]; rfl)) ?_; (with_reducible refine (word_Do.calls k1 (wrap64 ((Go.bits .and .i64 a0 15) + 1)) 7 t144 (Go.bits .and .i64 a3 31) t152 t153 _ A26.out).mono ?_); rintro e w' ⟨rfl, ⟨nd, rfl⟩⟩; refine ⟨_, rfl, ?_⟩) | ((with_reducible refine gate_callee (f := 12) rfl ?_); refine goesL_ (some 142) rfl rfl Try.func12 (by kernel_rfl) rfl #[.int .i64 (wrap64 ((wrap64 ((Go.bits .and .i64 a0 15) + 1)) - t150)), .int .i64 a1] rfl (by (try simp only [List.map_toArray, List.map_cons, List.map_nil]); first | done | rfl | (simp only [List.length_drop, List.length_take]; rfl)) ?_; (with_reducible refine (word_Mask.calls (wrap64 ((wrap64 ((Go.bits .and .i64 a0 15) + 1)) - t150)) a1 t154 _ A27.out).mono ?_); rintro e w' ⟨rfl, ⟨nd, rfl⟩⟩; refine ⟨_, rfl, ?_⟩) | (go_at_call 12; (with_reducible refine (word_Mask.calls (wrap64 ((Go.bits .and .i64 a0 15) + 1)) a1 t155 _ A32.out).mono ?_); rintro e w' ⟨rfl, ⟨nd, rfl⟩⟩))
                  go_ret
                  exact ⟨by first | rfl | (simp [errW_none, errW_some] <;> rfl) | (simp only [← hji28, ← hji30, ← hji33, ← hji35]; first | rfl | (simp [errW_none, errW_some] <;> rfl)) | (simp [*, errW_none, errW_some] <;> rfl), by repeat (first | (with_reducible first | exact HB.out | apply below_alloc | apply pw_below_drewN | apply below_drew1) | exact HB.out)⟩
              · rw [if_neg c34] at H
                exact absurd H (by simp)
            · rw [if_neg c31] at H
              have c31b0 : (t152 == (Go.bits .and .i64 t154 (wrap64 ((ji30) - 1)))) = false := beq_eq_false_iff_ne.mpr c31
              have c31b1 : (t152 != (Go.bits .and .i64 t154 (wrap64 ((ji30) - 1)))) = true := bne_iff_ne.mpr c31
              obtain rfl := Option.some.inj H
              go_wp2_with (first | ((with_reducible refine gate_callee (f := 11) rfl ?_); refine goesL_ (some 95) rfl rfl Try.func11 (by kernel_rfl) rfl #[.int .i64 (wrap64 ((Go.bits .and .i64 a0 15) + 1)), .int .i64 6, .int .i64 a1, .int .i64 (Go.bits .and .i64 a3 31)] rfl (by (try simp only [List.map_toArray, List.map_cons, List.map_nil]); first | done | rfl | (simp only [List.length_drop, List.length_take]; rfl)) ?_; (with_reducible refine (word_Do.calls k1 (wrap64 ((Go.bits .and .i64 a0 15) + 1)) 6 a1 (Go.bits .and .i64 a3 31) t144 t145 _ A18.out).mono ?_); rintro e w' ⟨rfl, ⟨nd, rfl⟩⟩; refine ⟨_, rfl, ?_⟩) | ((with_reducible refine gate_callee (f := 11) rfl ?_); refine goesL_ (some 105) rfl rfl Try.func11 (by kernel_rfl) rfl #[.int .i64 (wrap64 ((Go.bits .and .i64 a0 15) + 1)), .int .i64 6, .int .i64 a1, .int .i64 (wrap64 ((wrap64 ((Go.bits .and .i64 a0 15) + 1)) + (Go.bits .and .i64 a3 7)))] rfl (by (try simp only [List.map_toArray, List.map_cons, List.map_nil]); first | done | rfl | (simp only [List.length_drop, List.length_take]; rfl)) ?_; (with_reducible refine (word_Do.calls k1 (wrap64 ((Go.bits .and .i64 a0 15) + 1)) 6 a1 (wrap64 ((wrap64 ((Go.bits .and .i64 a0 15) + 1)) + (Go.bits .and .i64 a3 7))) t146 t147 _ A19.out).mono ?_); rintro e w' ⟨rfl, ⟨nd, rfl⟩⟩; refine ⟨_, rfl, ?_⟩) | ((with_reducible refine gate_callee (f := 11) rfl ?_); refine goesL_ (some 112) rfl rfl Try.func11 (by kernel_rfl) rfl #[.int .i64 (wrap64 ((Go.bits .and .i64 a0 15) + 1)), .int .i64 7, .int .i64 a1, .int .i64 (Go.bits .and .i64 a3 31)] rfl (by (try simp only [List.map_toArray, List.map_cons, List.map_nil]); first | done | rfl | (simp only [List.length_drop, List.length_take]; rfl)) ?_; (with_reducible refine (word_Do.calls k1 (wrap64 ((Go.bits .and .i64 a0 15) + 1)) 7 a1 (Go.bits .and .i64 a3 31) t148 t149 _ A20.out).mono ?_); rintro e w' ⟨rfl, ⟨nd, rfl⟩⟩; refine ⟨_, rfl, ?_⟩) | ((with_reducible refine gate_callee (f := 12) rfl ?_); refine goesL_ (some 117) rfl rfl Try.func12 (by kernel_rfl) rfl #[.int .i64 (wrap64 ((Go.bits .and .i64 a0 15) + 1)), .int .i64 (Go.bits .and .i64 a3 31)] rfl (by (try simp only [List.map_toArray, List.map_cons, List.map_nil]); first | done | rfl | (simp only [List.length_drop, List.length_take]; rfl)) ?_; (with_reducible refine (word_Mask.calls (wrap64 ((Go.bits .and .i64 a0 15) + 1)) (Go.bits .and .i64 a3 31) t150 _ A21.out).mono ?_); rintro e w' ⟨rfl, ⟨nd, rfl⟩⟩; refine ⟨_, rfl, ?_⟩) | ((with_reducible refine gate_callee (f := 11) rfl ?_); refine goesL_ (some 134) rfl rfl Try.func11 (by kernel_rfl) rfl #[.int .i64 (wrap64 ((Go.bits .and .i64 a0 15) + 1)), .int .i64 7, .int .i64 t144, .int .i64 (Go.bits .and .i64 a3 31)] rfl (by (try simp only [List.map_toArray, List.map_cons, List.map_nil]); first | done | rfl | (simp only [List.length_drop, List.length_take]; rfl)) ?_; (with_reducible refine (word_Do.calls k1 (wrap64 ((Go.bits .and .i64 a0 15) + 1)) 7 t144 (Go.bits .and .i64 a3 31) t152 t153 _ A26.out).mono ?_); rintro e w' ⟨rfl, ⟨nd, rfl⟩⟩; refine ⟨_, rfl, ?_⟩) | ((with_reducible refine gate_callee (f := 12) rfl ?_); refine goesL_ (some 142) rfl rfl Try.func12 (by kernel_rfl) rfl #[.int .i64 (wrap64 ((wrap64 ((Go.bits .and .i64 a0 15) + 1)) - t150)), .int .i64 a1] rfl (by (try simp only [List.map_toArray, List.map_cons, List.map_nil]); first | done | rfl | (simp only [List.length_drop, List.length_take]; rfl)) ?_; (with_reducible refine (word_Mask.calls (wrap64 ((wrap64 ((Go.bits .and .i64 a0 15) + 1)) - t150)) a1 t154 _ A27.out).mono ?_); rintro e w' ⟨rfl, ⟨nd, rfl⟩⟩; refine ⟨_, rfl, ?_⟩))
              go_ret
              exact ⟨by first | rfl | (simp [errW_none, errW_some] <;> rfl) | (simp only [← hji28, ← hji30]; first | rfl | (simp [errW_none, errW_some] <;> rfl)) | (simp [*, errW_none, errW_some] <;> rfl), by repeat (first | (with_reducible first | exact HB.out | apply below_alloc | apply pw_below_drewN | apply below_drew1) | exact HB.out)⟩
          · rw [if_neg c29] at H
            exact absurd H (by simp)

/-- THE ONE PURE STATEMENT of augurylaw1_WordLaws: yours. -/
def augurylaw1_WordLaws.Pure : Prop := ∀ (a0 : Int) (a1 : Int) (a2 : Int) (a3 : Int), (Lit.int .i64 a0).wf = true → (Lit.int .i64 a1).wf = true → (Lit.int .i64 a2).wf = true → (Lit.int .i64 a3).wf = true → ∃ k, augurylaw1_WordLaws.f k a0 a1 a2 a3 = some true
theorem augurylaw1_WordLaws.walk (P : augurylaw1_WordLaws.Pure) (a0 : Int) (a1 : Int) (a2 : Int) (a3 : Int) (w : World) (w0 : (Lit.int .i64 a0).wf = true) (w1 : (Lit.int .i64 a1).wf = true) (w2 : (Lit.int .i64 a2).wf = true) (w3 : (Lit.int .i64 a3).wf = true) :
    Calls Try.prog 4 #[.int .i64 a0, .int .i64 a1, .int .i64 a2, .int .i64 a3] w fun e w' => e = .returned (.bool true) ∧ Below w.heap.size w w' := by
  obtain ⟨k, h⟩ := P a0 a1 a2 a3 w0 w1 w2 w3
  refine (augurylaw1_WordLaws.calls k a0 a1 a2 a3 true w h).mono ?_
  rintro e w' ⟨rfl, hd⟩
  exact ⟨rfl, hd⟩

end Go.Proofs.Ytogihgkicpbafaa.PWordLaws
