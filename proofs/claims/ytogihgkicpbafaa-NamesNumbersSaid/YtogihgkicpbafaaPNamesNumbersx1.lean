-- PRINTED BY print.sh 35421559b90ae4d0a3588c463048766b98c2df88dd9212a6774a882060cdf62d: not written by this session
import Derived.Test.YtogihgkicpbafaaPNamesNumbersx0
namespace Go.Proofs.Ytogihgkicpbafaa.PNamesNumbers
open Go.RowKit Go.Proofs.YtogihgkicpbafaaW.PrintWords Go.Proofs.YtogihgkicpbafaaW.PrintLast Go.Proofs.YtogihgkicpbafaaW.PrintMore
attribute [local go_sem] max2_int min2_int max_two min_two max_three min_three max_four min_four   -- for this text's walks alone
set_option linter.unusedVariables false
set_option linter.unusedSimpArgs false

/-! ### augurylaw0_all: function 9 -/
def augurylaw0_all.f  : Option ((List (S25))) := some (([(⟨1, 1⟩ : S25), (⟨2, 2⟩ : S25), (⟨3, 3⟩ : S25), (⟨4, 4⟩ : S25), (⟨5, 5⟩ : S25), (⟨6, 6⟩ : S25), (⟨7, 7⟩ : S25), (⟨8, 8⟩ : S25), (⟨9, 9⟩ : S25), (⟨10, 10⟩ : S25), (⟨1, 1⟩ : S25), (⟨2, 2⟩ : S25), (⟨3, 3⟩ : S25), (⟨0, 0⟩ : S25), (⟨1, 1⟩ : S25), (⟨2, 2⟩ : S25), (⟨3, 3⟩ : S25), (⟨4, 4⟩ : S25), (⟨5, 5⟩ : S25), (⟨6, 6⟩ : S25), (⟨7, 7⟩ : S25), (⟨1, 1⟩ : S25), (⟨2, 2⟩ : S25), (⟨3, 3⟩ : S25), (⟨4, 4⟩ : S25), (⟨5, 5⟩ : S25), (⟨6, 6⟩ : S25), (⟨7, 7⟩ : S25), (⟨8, 8⟩ : S25), (⟨9, 9⟩ : S25), (⟨10, 10⟩ : S25), (⟨11, 11⟩ : S25), (⟨12, 12⟩ : S25), (⟨1, 1⟩ : S25), (⟨2, 2⟩ : S25), (⟨1, 1⟩ : S25), (⟨2, 2⟩ : S25), (⟨3, 3⟩ : S25), (⟨1, 1⟩ : S25), (⟨2, 2⟩ : S25), (⟨3, 3⟩ : S25), (⟨4, 4⟩ : S25), (⟨1, 1⟩ : S25), (⟨2, 2⟩ : S25), (⟨3, 3⟩ : S25)] : List (S25)))
set_option maxHeartbeats 8000000 in
set_option maxRecDepth 100000 in
theorem augurylaw0_all.calls  (r : List (S25)) (w : World) (h : augurylaw0_all.f  = some r) :
    Calls Try.prog 9 #[] w fun e w' => ∃ v0_ : Value, e = .returned (v0_) ∧ Kd.R k25 25 w' w.heap.size (fun _ => True) v0_ r ∧ Below w.heap.size w w' := by
  have hu25 := Try.underlying25
  have HB := Aside0.mk (Below.refl w.heap.size w)
  have H : (some (([(⟨1, 1⟩ : S25), (⟨2, 2⟩ : S25), (⟨3, 3⟩ : S25), (⟨4, 4⟩ : S25), (⟨5, 5⟩ : S25), (⟨6, 6⟩ : S25), (⟨7, 7⟩ : S25), (⟨8, 8⟩ : S25), (⟨9, 9⟩ : S25), (⟨10, 10⟩ : S25), (⟨1, 1⟩ : S25), (⟨2, 2⟩ : S25), (⟨3, 3⟩ : S25), (⟨0, 0⟩ : S25), (⟨1, 1⟩ : S25), (⟨2, 2⟩ : S25), (⟨3, 3⟩ : S25), (⟨4, 4⟩ : S25), (⟨5, 5⟩ : S25), (⟨6, 6⟩ : S25), (⟨7, 7⟩ : S25), (⟨1, 1⟩ : S25), (⟨2, 2⟩ : S25), (⟨3, 3⟩ : S25), (⟨4, 4⟩ : S25), (⟨5, 5⟩ : S25), (⟨6, 6⟩ : S25), (⟨7, 7⟩ : S25), (⟨8, 8⟩ : S25), (⟨9, 9⟩ : S25), (⟨10, 10⟩ : S25), (⟨11, 11⟩ : S25), (⟨12, 12⟩ : S25), (⟨1, 1⟩ : S25), (⟨2, 2⟩ : S25), (⟨1, 1⟩ : S25), (⟨2, 2⟩ : S25), (⟨3, 3⟩ : S25), (⟨1, 1⟩ : S25), (⟨2, 2⟩ : S25), (⟨3, 3⟩ : S25), (⟨4, 4⟩ : S25), (⟨1, 1⟩ : S25), (⟨2, 2⟩ : S25), (⟨3, 3⟩ : S25)] : List (S25)))) = some r := h
  clear h
  obtain ⟨y101, hy101⟩ : ∃ y_ : List (S25), y_ = (([(⟨1, 1⟩ : S25), (⟨2, 2⟩ : S25), (⟨3, 3⟩ : S25), (⟨4, 4⟩ : S25), (⟨5, 5⟩ : S25), (⟨6, 6⟩ : S25), (⟨7, 7⟩ : S25), (⟨8, 8⟩ : S25), (⟨9, 9⟩ : S25), (⟨10, 10⟩ : S25), (⟨1, 1⟩ : S25), (⟨2, 2⟩ : S25), (⟨3, 3⟩ : S25), (⟨0, 0⟩ : S25), (⟨1, 1⟩ : S25), (⟨2, 2⟩ : S25), (⟨3, 3⟩ : S25), (⟨4, 4⟩ : S25), (⟨5, 5⟩ : S25), (⟨6, 6⟩ : S25), (⟨7, 7⟩ : S25), (⟨1, 1⟩ : S25), (⟨2, 2⟩ : S25), (⟨3, 3⟩ : S25), (⟨4, 4⟩ : S25), (⟨5, 5⟩ : S25), (⟨6, 6⟩ : S25), (⟨7, 7⟩ : S25), (⟨8, 8⟩ : S25), (⟨9, 9⟩ : S25), (⟨10, 10⟩ : S25), (⟨11, 11⟩ : S25), (⟨12, 12⟩ : S25), (⟨1, 1⟩ : S25), (⟨2, 2⟩ : S25), (⟨1, 1⟩ : S25), (⟨2, 2⟩ : S25), (⟨3, 3⟩ : S25), (⟨1, 1⟩ : S25), (⟨2, 2⟩ : S25), (⟨3, 3⟩ : S25), (⟨4, 4⟩ : S25), (⟨1, 1⟩ : S25), (⟨2, 2⟩ : S25), (⟨3, 3⟩ : S25)] : List (S25))) := ⟨_, rfl⟩
  replace H : (some y101) = some r := by first | (rw [hy101]; with_reducible exact H) | (have H2_ := (Option.bind_some _ _).symm.trans H; rw [hy101]; with_reducible exact H2_) | (have H2_ := (Option.bind_some _ _).symm.trans H; with_reducible exact H2_) | with_reducible exact H | (rw [hy101]; exact H) | exact H
  have Ny101 := Aside0.mk hy101
  clear hy101
  obtain rfl := Option.some.inj H
  go_enter Try.func9, Try.ntmps9
  go_wp2_with (first | ((with_reducible refine gate_dst (N := 46) rfl ?_); refine Kd.R_lit k25 _ 25 ?hg (N := 46) ?hd (xs := ([(⟨1, 1⟩ : S25), (⟨2, 2⟩ : S25), (⟨3, 3⟩ : S25), (⟨4, 4⟩ : S25), (⟨5, 5⟩ : S25), (⟨6, 6⟩ : S25), (⟨7, 7⟩ : S25), (⟨8, 8⟩ : S25), (⟨9, 9⟩ : S25), (⟨10, 10⟩ : S25), (⟨1, 1⟩ : S25), (⟨2, 2⟩ : S25), (⟨3, 3⟩ : S25), (⟨0, 0⟩ : S25), (⟨1, 1⟩ : S25), (⟨2, 2⟩ : S25), (⟨3, 3⟩ : S25), (⟨4, 4⟩ : S25), (⟨5, 5⟩ : S25), (⟨6, 6⟩ : S25), (⟨7, 7⟩ : S25), (⟨1, 1⟩ : S25), (⟨2, 2⟩ : S25), (⟨3, 3⟩ : S25), (⟨4, 4⟩ : S25), (⟨5, 5⟩ : S25), (⟨6, 6⟩ : S25), (⟨7, 7⟩ : S25), (⟨8, 8⟩ : S25), (⟨9, 9⟩ : S25), (⟨10, 10⟩ : S25), (⟨11, 11⟩ : S25), (⟨12, 12⟩ : S25), (⟨1, 1⟩ : S25), (⟨2, 2⟩ : S25), (⟨1, 1⟩ : S25), (⟨2, 2⟩ : S25), (⟨3, 3⟩ : S25), (⟨1, 1⟩ : S25), (⟨2, 2⟩ : S25), (⟨3, 3⟩ : S25), (⟨4, 4⟩ : S25), (⟨1, 1⟩ : S25), (⟨2, 2⟩ : S25), (⟨3, 3⟩ : S25)] : List (S25))) (inner := [.int .i64 1, .int .i64 1, .int .i64 2, .int .i64 2, .int .i64 3, .int .i64 3, .int .i64 4, .int .i64 4, .int .i64 5, .int .i64 5, .int .i64 6, .int .i64 6, .int .i64 7, .int .i64 7, .int .i64 8, .int .i64 8, .int .i64 9, .int .i64 9, .int .i64 10, .int .i64 10, .int .i64 1, .int .i64 1, .int .i64 2, .int .i64 2, .int .i64 3, .int .i64 3, .int .i64 0, .int .i64 0, .int .i64 1, .int .i64 1, .int .i64 2, .int .i64 2, .int .i64 3, .int .i64 3, .int .i64 4, .int .i64 4, .int .i64 5, .int .i64 5, .int .i64 6, .int .i64 6, .int .i64 7, .int .i64 7, .int .i64 1, .int .i64 1, .int .i64 2, .int .i64 2, .int .i64 3, .int .i64 3, .int .i64 4, .int .i64 4, .int .i64 5, .int .i64 5, .int .i64 6, .int .i64 6, .int .i64 7, .int .i64 7, .int .i64 8, .int .i64 8, .int .i64 9, .int .i64 9, .int .i64 10, .int .i64 10, .int .i64 11, .int .i64 11, .int .i64 12, .int .i64 12, .int .i64 1, .int .i64 1, .int .i64 2, .int .i64 2, .int .i64 1, .int .i64 1, .int .i64 2, .int .i64 2, .int .i64 3, .int .i64 3, .int .i64 1, .int .i64 1, .int .i64 2, .int .i64 2, .int .i64 3, .int .i64 3, .int .i64 4, .int .i64 4, .int .i64 1, .int .i64 1, .int .i64 2, .int .i64 2, .int .i64 3, .int .i64 3]) (ok := fun _ => True) (okp := fun _ => True) ?hr ?hp (fun _ hk => hk) trivial (Below.refl _ _) (Nat.le_refl _) (by simp) ?_; (case hd => rfl); (case hg => rfl); (case hr => first | (go_simp; done) | (go_simp; rfl)); (case hp => exact (Reps.c2 (show Kd.M k25 _ _ _ (⟨1, 1⟩ : S25) [.int .i64 1, .int .i64 1] from (k25_mkM _ _ _ (⟨1, 1⟩ : S25) )) (Reps.c2 (show Kd.M k25 _ _ _ (⟨2, 2⟩ : S25) [.int .i64 2, .int .i64 2] from (k25_mkM _ _ _ (⟨2, 2⟩ : S25) )) (Reps.c2 (show Kd.M k25 _ _ _ (⟨3, 3⟩ : S25) [.int .i64 3, .int .i64 3] from (k25_mkM _ _ _ (⟨3, 3⟩ : S25) )) (Reps.c2 (show Kd.M k25 _ _ _ (⟨4, 4⟩ : S25) [.int .i64 4, .int .i64 4] from (k25_mkM _ _ _ (⟨4, 4⟩ : S25) )) (Reps.c2 (show Kd.M k25 _ _ _ (⟨5, 5⟩ : S25) [.int .i64 5, .int .i64 5] from (k25_mkM _ _ _ (⟨5, 5⟩ : S25) )) (Reps.c2 (show Kd.M k25 _ _ _ (⟨6, 6⟩ : S25) [.int .i64 6, .int .i64 6] from (k25_mkM _ _ _ (⟨6, 6⟩ : S25) )) (Reps.c2 (show Kd.M k25 _ _ _ (⟨7, 7⟩ : S25) [.int .i64 7, .int .i64 7] from (k25_mkM _ _ _ (⟨7, 7⟩ : S25) )) (Reps.c2 (show Kd.M k25 _ _ _ (⟨8, 8⟩ : S25) [.int .i64 8, .int .i64 8] from (k25_mkM _ _ _ (⟨8, 8⟩ : S25) )) (Reps.c2 (show Kd.M k25 _ _ _ (⟨9, 9⟩ : S25) [.int .i64 9, .int .i64 9] from (k25_mkM _ _ _ (⟨9, 9⟩ : S25) )) (Reps.c2 (show Kd.M k25 _ _ _ (⟨10, 10⟩ : S25) [.int .i64 10, .int .i64 10] from (k25_mkM _ _ _ (⟨10, 10⟩ : S25) )) (Reps.c2 (show Kd.M k25 _ _ _ (⟨1, 1⟩ : S25) [.int .i64 1, .int .i64 1] from (k25_mkM _ _ _ (⟨1, 1⟩ : S25) )) (Reps.c2 (show Kd.M k25 _ _ _ (⟨2, 2⟩ : S25) [.int .i64 2, .int .i64 2] from (k25_mkM _ _ _ (⟨2, 2⟩ : S25) )) (Reps.c2 (show Kd.M k25 _ _ _ (⟨3, 3⟩ : S25) [.int .i64 3, .int .i64 3] from (k25_mkM _ _ _ (⟨3, 3⟩ : S25) )) (Reps.c2 (show Kd.M k25 _ _ _ (⟨0, 0⟩ : S25) [.int .i64 0, .int .i64 0] from (k25_mkM _ _ _ (⟨0, 0⟩ : S25) )) (Reps.c2 (show Kd.M k25 _ _ _ (⟨1, 1⟩ : S25) [.int .i64 1, .int .i64 1] from (k25_mkM _ _ _ (⟨1, 1⟩ : S25) )) (Reps.c2 (show Kd.M k25 _ _ _ (⟨2, 2⟩ : S25) [.int .i64 2, .int .i64 2] from (k25_mkM _ _ _ (⟨2, 2⟩ : S25) )) (Reps.c2 (show Kd.M k25 _ _ _ (⟨3, 3⟩ : S25) [.int .i64 3, .int .i64 3] from (k25_mkM _ _ _ (⟨3, 3⟩ : S25) )) (Reps.c2 (show Kd.M k25 _ _ _ (⟨4, 4⟩ : S25) [.int .i64 4, .int .i64 4] from (k25_mkM _ _ _ (⟨4, 4⟩ : S25) )) (Reps.c2 (show Kd.M k25 _ _ _ (⟨5, 5⟩ : S25) [.int .i64 5, .int .i64 5] from (k25_mkM _ _ _ (⟨5, 5⟩ : S25) )) (Reps.c2 (show Kd.M k25 _ _ _ (⟨6, 6⟩ : S25) [.int .i64 6, .int .i64 6] from (k25_mkM _ _ _ (⟨6, 6⟩ : S25) )) (Reps.c2 (show Kd.M k25 _ _ _ (⟨7, 7⟩ : S25) [.int .i64 7, .int .i64 7] from (k25_mkM _ _ _ (⟨7, 7⟩ : S25) )) (Reps.c2 (show Kd.M k25 _ _ _ (⟨1, 1⟩ : S25) [.int .i64 1, .int .i64 1] from (k25_mkM _ _ _ (⟨1, 1⟩ : S25) )) (Reps.c2 (show Kd.M k25 _ _ _ (⟨2, 2⟩ : S25) [.int .i64 2, .int .i64 2] from (k25_mkM _ _ _ (⟨2, 2⟩ : S25) )) (Reps.c2 (show Kd.M k25 _ _ _ (⟨3, 3⟩ : S25) [.int .i64 3, .int .i64 3] from (k25_mkM _ _ _ (⟨3, 3⟩ : S25) )) (Reps.c2 (show Kd.M k25 _ _ _ (⟨4, 4⟩ : S25) [.int .i64 4, .int .i64 4] from (k25_mkM _ _ _ (⟨4, 4⟩ : S25) )) (Reps.c2 (show Kd.M k25 _ _ _ (⟨5, 5⟩ : S25) [.int .i64 5, .int .i64 5] from (k25_mkM _ _ _ (⟨5, 5⟩ : S25) )) (Reps.c2 (show Kd.M k25 _ _ _ (⟨6, 6⟩ : S25) [.int .i64 6, .int .i64 6] from (k25_mkM _ _ _ (⟨6, 6⟩ : S25) )) (Reps.c2 (show Kd.M k25 _ _ _ (⟨7, 7⟩ : S25) [.int .i64 7, .int .i64 7] from (k25_mkM _ _ _ (⟨7, 7⟩ : S25) )) (Reps.c2 (show Kd.M k25 _ _ _ (⟨8, 8⟩ : S25) [.int .i64 8, .int .i64 8] from (k25_mkM _ _ _ (⟨8, 8⟩ : S25) )) (Reps.c2 (show Kd.M k25 _ _ _ (⟨9, 9⟩ : S25) [.int .i64 9, .int .i64 9] from (k25_mkM _ _ _ (⟨9, 9⟩ : S25) )) (Reps.c2 (show Kd.M k25 _ _ _ (⟨10, 10⟩ : S25) [.int .i64 10, .int .i64 10] from (k25_mkM _ _ _ (⟨10, 10⟩ : S25) )) (Reps.c2 (show Kd.M k25 _ _ _ (⟨11, 11⟩ : S25) [.int .i64 11, .int .i64 11] from (k25_mkM _ _ _ (⟨11, 11⟩ : S25) )) (Reps.c2 (show Kd.M k25 _ _ _ (⟨12, 12⟩ : S25) [.int .i64 12, .int .i64 12] from (k25_mkM _ _ _ (⟨12, 12⟩ : S25) )) (Reps.c2 (show Kd.M k25 _ _ _ (⟨1, 1⟩ : S25) [.int .i64 1, .int .i64 1] from (k25_mkM _ _ _ (⟨1, 1⟩ : S25) )) (Reps.c2 (show Kd.M k25 _ _ _ (⟨2, 2⟩ : S25) [.int .i64 2, .int .i64 2] from (k25_mkM _ _ _ (⟨2, 2⟩ : S25) )) (Reps.c2 (show Kd.M k25 _ _ _ (⟨1, 1⟩ : S25) [.int .i64 1, .int .i64 1] from (k25_mkM _ _ _ (⟨1, 1⟩ : S25) )) (Reps.c2 (show Kd.M k25 _ _ _ (⟨2, 2⟩ : S25) [.int .i64 2, .int .i64 2] from (k25_mkM _ _ _ (⟨2, 2⟩ : S25) )) (Reps.c2 (show Kd.M k25 _ _ _ (⟨3, 3⟩ : S25) [.int .i64 3, .int .i64 3] from (k25_mkM _ _ _ (⟨3, 3⟩ : S25) )) (Reps.c2 (show Kd.M k25 _ _ _ (⟨1, 1⟩ : S25) [.int .i64 1, .int .i64 1] from (k25_mkM _ _ _ (⟨1, 1⟩ : S25) )) (Reps.c2 (show Kd.M k25 _ _ _ (⟨2, 2⟩ : S25) [.int .i64 2, .int .i64 2] from (k25_mkM _ _ _ (⟨2, 2⟩ : S25) )) (Reps.c2 (show Kd.M k25 _ _ _ (⟨3, 3⟩ : S25) [.int .i64 3, .int .i64 3] from (k25_mkM _ _ _ (⟨3, 3⟩ : S25) )) (Reps.c2 (show Kd.M k25 _ _ _ (⟨4, 4⟩ : S25) [.int .i64 4, .int .i64 4] from (k25_mkM _ _ _ (⟨4, 4⟩ : S25) )) (Reps.c2 (show Kd.M k25 _ _ _ (⟨1, 1⟩ : S25) [.int .i64 1, .int .i64 1] from (k25_mkM _ _ _ (⟨1, 1⟩ : S25) )) (Reps.c2 (show Kd.M k25 _ _ _ (⟨2, 2⟩ : S25) [.int .i64 2, .int .i64 2] from (k25_mkM _ _ _ (⟨2, 2⟩ : S25) )) (Reps.c2 (show Kd.M k25 _ _ _ (⟨3, 3⟩ : S25) [.int .i64 3, .int .i64 3] from (k25_mkM _ _ _ (⟨3, 3⟩ : S25) )) (Reps.none _ _))))))))))))))))))))))))))))))))))))))))))))))); intro v102 w1 ho2 hb hg_ hnew_; clear hg_ hnew_; (first | rw [← Ny101.out] at ho2 | (simp only [Int.reduceToNat] at ho2; rw [← Ny101.out] at ho2)); have n0_ := Aside0.mk (Kd.R_lower ho2 (below_size (by repeat (first | (with_reducible first | exact HB.out | apply below_alloc | apply pw_below_drewN | apply below_drew1) | exact HB.out)))); have n1_ := Aside0.mk (below_step (by repeat (first | (with_reducible first | exact HB.out | apply below_alloc | apply pw_below_drewN | apply below_drew1) | exact HB.out)) hb); clear HB; have HO103 := n0_; have HB := n1_; clear n0_ n1_; clear hb ho2))
  go_ret
  exact ⟨_, by first | rfl | (simp [errW_none, errW_some] <;> rfl) | (simp [*, errW_none, errW_some] <;> rfl), by (with_reducible repeat (first | apply Kd.R_alloc | apply Kd.R_drewN | apply Kd.R_drew)); exact HO103.out, by repeat (first | (with_reducible first | exact HB.out | apply below_alloc | apply pw_below_drewN | apply below_drew1) | exact HB.out)⟩

/-! ### word_Ok: function 10 -/
def word_Ok.f (a0 : Int) : Option (Bool) := if a0 ≥ 1 then (some (decide (a0 ≤ 16))) else (some false)
set_option maxHeartbeats 8000000 in
set_option maxRecDepth 100000 in
theorem word_Ok.calls (a0 : Int) (r : Bool) (w : World) (h : word_Ok.f a0 = some r) :
    Calls Try.prog 10 #[.int .i64 a0] w fun e w' => e = .returned (.bool r) ∧ Drawn0 w w' := by
  have H : (if a0 ≥ 1 then (some (decide (a0 ≤ 16))) else (some false)) = some r := h
  clear h
  by_cases c2 : a0 ≥ 1
  · rw [if_pos c2] at H
    have c2b0 : decide (1 ≤ a0) = true := decide_eq_true c2
    clear c2
    obtain rfl := Option.some.inj H
    go_enter Try.func10, Try.ntmps10
    go_wp2
    go_ret
    exact ⟨by first | rfl | (simp; done) | (simp [*]; done), by repeat (first | exact Drawn0.refl _ | apply Drawn0.step)⟩
  · rw [if_neg c2] at H
    have c2b0 : decide (1 ≤ a0) = false := decide_eq_false c2
    clear c2
    obtain rfl := Option.some.inj H
    go_enter Try.func10, Try.ntmps10
    go_wp2
    go_ret
    exact ⟨by first | rfl | (simp; done) | (simp [*]; done), by repeat (first | exact Drawn0.refl _ | apply Drawn0.step)⟩

/-! ### augurylaw0_NamesNumbers: function 3 -/
def augurylaw0_NamesNumbers.l0 : Nat → List (S25) → Int → Option (Bool)
  | 0, _, _ => none
  | k + 1, x1, x2 => if x2 < (x1.length : Int) then (if 0 ≤ x2 then (if ((rd_T25 x1 x2).f0) = ((rd_T25 x1 x2).f1) then (augurylaw0_NamesNumbers.l0 k x1 (wrap64 (x2 + 1))) else (some false)) else (none)) else ((word_Ok.f 1).bind fun t109 => (if t109 = true then ((word_Ok.f 0).bind fun t110 => (some (!t110))) else (some false)))
def augurylaw0_NamesNumbers.f (k : Nat)  : Option (Bool) := (augurylaw0_all.f).bind fun t104 => (augurylaw0_NamesNumbers.l0 k t104 0)
theorem augurylaw0_NamesNumbers.mono_l : ∀ k, (∀ y0 y1, LeO (augurylaw0_NamesNumbers.l0 k y0 y1) (augurylaw0_NamesNumbers.l0 (k + 1) y0 y1))
  | 0 => fun _ _ r h => by simp [augurylaw0_NamesNumbers.l0] at h
  | k + 1 => by
    have ih0 := augurylaw0_NamesNumbers.mono_l k
    · intro y0 y1
      unfold augurylaw0_NamesNumbers.l0
      repeat' first
      | (with_reducible exact ih0 _ _)
      | (with_reducible exact LeO.refl _)
      | (with_reducible exact LeO.none _)
      | (with_reducible refine LeO.ite ?_ ?_)
      | (with_reducible refine LeO.bind ?_ (fun _ => ?_))
      | exact ih0 _ _
      | exact LeO.none _
      | refine LeO.ite ?_ ?_
      | refine LeO.bind ?_ (fun _ => ?_)
theorem augurylaw0_NamesNumbers.mono : ∀ k, LeO (augurylaw0_NamesNumbers.f k ) (augurylaw0_NamesNumbers.f (k + 1) ) := by
  intro  k
  have ih0 := augurylaw0_NamesNumbers.mono_l k
  unfold augurylaw0_NamesNumbers.f
  repeat' first
      | (with_reducible exact ih0 _ _)
      | (with_reducible exact LeO.refl _)
      | (with_reducible exact LeO.none _)
      | (with_reducible refine LeO.ite ?_ ?_)
      | (with_reducible refine LeO.bind ?_ (fun _ => ?_))
      | exact ih0 _ _
      | exact LeO.none _
      | refine LeO.ite ?_ ?_
      | refine LeO.bind ?_ (fun _ => ?_)
set_option maxHeartbeats 8000000 in
set_option maxRecDepth 100000 in
theorem augurylaw0_NamesNumbers.calls (k : Nat)  (r : Bool) (w : World) (h : augurylaw0_NamesNumbers.f k  = some r) :
    Calls Try.prog 3 #[] w fun e w' => e = .returned (.bool r) ∧ Below w.heap.size w w' := by
  have HB := Aside0.mk (Below.refl w.heap.size w)
  have H : ((augurylaw0_all.f).bind fun t104 => (augurylaw0_NamesNumbers.l0 k t104 0)) = some r := h
  clear h
  replace H := Option.bind_eq_some_iff.mp H
  obtain ⟨t104, A10, H⟩ := H
  replace H : (augurylaw0_NamesNumbers.l0 k t104 0) = some r := H
  have A1 := Aside0.mk A10
  clear A10
  have H' := Aside0.mk H
  clear H
  go_enter Try.func3, Try.ntmps3
  go_wp2_with (first | (go_at_call 9; (with_reducible refine (augurylaw0_all.calls  t104 _ A1.out).mono ?_); rintro e w2 ⟨v105, rfl, ho0, hb⟩; have n0_ := Aside0.mk (Kd.R_lower ho0 (below_size (by repeat (first | (with_reducible first | exact HB.out | apply below_alloc | apply pw_below_drewN | apply below_drew1) | exact HB.out)))); have n1_ := Aside0.mk (below_step (by repeat (first | (with_reducible first | exact HB.out | apply below_alloc | apply pw_below_drewN | apply below_drew1) | exact HB.out)) hb); clear HB; have HO106 := n0_; have HB := n1_; clear n0_ n1_; (try clear hb); (try clear hb2); (try clear hk); (try clear hi); (try clear ho0)))
  repeat (go_quiet (first | (go_at_call 9; (with_reducible refine (augurylaw0_all.calls  t104 _ A1.out).mono ?_); rintro e w2 ⟨v105, rfl, ho0, hb⟩; have n0_ := Aside0.mk (Kd.R_lower ho0 (below_size (by repeat (first | (with_reducible first | exact HB.out | apply below_alloc | apply pw_below_drewN | apply below_drew1) | exact HB.out)))); have n1_ := Aside0.mk (below_step (by repeat (first | (with_reducible first | exact HB.out | apply below_alloc | apply pw_below_drewN | apply below_drew1) | exact HB.out)) hb); clear HB; have HO106 := n0_; have HB := n1_; clear n0_ n1_; (try clear hb); (try clear hb2); (try clear hk); (try clear hi); (try clear ho0))); try go_wp2_with (first | (go_at_call 9; (with_reducible refine (augurylaw0_all.calls  t104 _ A1.out).mono ?_); rintro e w2 ⟨v105, rfl, ho0, hb⟩; have n0_ := Aside0.mk (Kd.R_lower ho0 (below_size (by repeat (first | (with_reducible first | exact HB.out | apply below_alloc | apply pw_below_drewN | apply below_drew1) | exact HB.out)))); have n1_ := Aside0.mk (below_step (by repeat (first | (with_reducible first | exact HB.out | apply below_alloc | apply pw_below_drewN | apply below_drew1) | exact HB.out)) hb); clear HB; have HO106 := n0_; have HB := n1_; clear n0_ n1_; (try clear hb); (try clear hb2); (try clear hk); (try clear hi); (try clear ho0))))
  go_loopg [2] k (fun kq v2 w' => ∃ (x2_1 : Int), v2 = .int .i64 x2_1 ∧ Aside0 (augurylaw0_NamesNumbers.l0 kq t104 x2_1 = some r) ∧ Aside0 (kq ≤ k) ∧ Aside0 (Kd.R k25 25 w' w.heap.size (fun _ => True) v105 t104) ∧ Aside0 (Below w.heap.size w w'))
  case atStart => exact ⟨(0), (by first | rfl | (simp; done) | (simp [*]; done)), H', ⟨Nat.le_refl _⟩, ⟨by (with_reducible repeat (first | apply Kd.R_alloc | apply Kd.R_drewN | apply Kd.R_drew)); exact HO106.out⟩, ⟨by repeat (first | (with_reducible first | exact HB.out | apply below_alloc | apply pw_below_drewN | apply below_drew1) | exact HB.out)⟩⟩
  case round =>
    clear H'
    try clear p2
    obtain ⟨x2_1, rfl, HA, HK1, HO_1, HB⟩ := hrel
    cases gk with
    | zero => exact absurd HA.out (by simp [augurylaw0_NamesNumbers.l0])
    | succ k1 =>
      have H := HA.out
      clear HA
      simp only [augurylaw0_NamesNumbers.l0] at H
      by_cases c3 : x2_1 < (t104.length : Int)
      · rw [if_pos c3] at H
        have c3b0 : decide (x2_1 < (t104.length : Int)) = true := decide_eq_true c3
        clear c3
        by_cases c4 : 0 ≤ x2_1
        · rw [if_pos c4] at H
          have c4b0 : decide (0 ≤ x2_1) = true := decide_eq_true c4
          clear c4
          by_cases c5 : ((rd_T25 t104 x2_1).f0) = ((rd_T25 t104 x2_1).f1)
          · rw [if_pos c5] at H
            have c5b0 : (((rd_T25 t104 x2_1).f0) == ((rd_T25 t104 x2_1).f1)) = true := beq_iff_eq.mpr c5
            have c5b1 : (((rd_T25 t104 x2_1).f0) != ((rd_T25 t104 x2_1).f1)) = false := bne_eq_false_iff_eq.mpr c5
            clear c5
            have H' := Aside0.mk H
            clear H
            obtain ⟨Ao6, co6, eo6⟩ := Kd.R_slice HO_1.out
            subst eo6
            have p107 : 0 ≤ (x2_1 : Int) := of_decide_eq_true (by first | (with_reducible assumption) | assumption)
            have q107 : x2_1 < (t104.length : Int) := of_decide_eq_true (by first | (with_reducible assumption) | assumption)
            obtain ⟨ad107, e107, hx107_0, hx107_1⟩ := at_T25 (Kd.R_reads' HO_1.out).2.2 x2_1 p107 q107
            cases e107
            replace p107 := eq_true p107
            replace q107 := eq_true q107
            have p108 : 0 ≤ (x2_1 : Int) := of_decide_eq_true (by first | (with_reducible assumption) | assumption)
            have q108 : x2_1 < (t104.length : Int) := of_decide_eq_true (by first | (with_reducible assumption) | assumption)
            obtain ⟨ad108, e108, hx108_0, hx108_1⟩ := at_T25 (Kd.R_reads' HO_1.out).2.2 x2_1 p108 q108
            obtain rfl : ad107 = ad108 := (by injection e108)
            replace p108 := eq_true p108
            replace q108 := eq_true q108
            go_wp2
            repeat (go_quiet (fail); try go_wp2)
            go_roundg k1
            case measure => have := HK1.out; omega
            case rel => exact ⟨(wrap64 (x2_1 + 1)), (by first | rfl | (simp; done) | (simp [*]; done)), H', ⟨by have := HK1.out; omega⟩, ⟨by (with_reducible repeat (first | apply Kd.R_alloc | apply Kd.R_drewN | apply Kd.R_drew)); exact HO_1.out⟩, ⟨by repeat (first | (with_reducible first | exact HB.out | apply below_alloc | apply pw_below_drewN | apply below_drew1) | exact HB.out)⟩⟩
          · rw [if_neg c5] at H
            have c5b0 : (((rd_T25 t104 x2_1).f0) == ((rd_T25 t104 x2_1).f1)) = false := beq_eq_false_iff_ne.mpr c5
            have c5b1 : (((rd_T25 t104 x2_1).f0) != ((rd_T25 t104 x2_1).f1)) = true := bne_iff_ne.mpr c5
            obtain rfl := Option.some.inj H
            obtain ⟨Ao7, co7, eo7⟩ := Kd.R_slice HO_1.out
            subst eo7
            have p107 : 0 ≤ (x2_1 : Int) := of_decide_eq_true (by first | (with_reducible assumption) | assumption)
            have q107 : x2_1 < (t104.length : Int) := of_decide_eq_true (by first | (with_reducible assumption) | assumption)
            obtain ⟨ad107, e107, hx107_0, hx107_1⟩ := at_T25 (Kd.R_reads' HO_1.out).2.2 x2_1 p107 q107
            cases e107
            replace p107 := eq_true p107
            replace q107 := eq_true q107
            have p108 : 0 ≤ (x2_1 : Int) := of_decide_eq_true (by first | (with_reducible assumption) | assumption)
            have q108 : x2_1 < (t104.length : Int) := of_decide_eq_true (by first | (with_reducible assumption) | assumption)
            obtain ⟨ad108, e108, hx108_0, hx108_1⟩ := at_T25 (Kd.R_reads' HO_1.out).2.2 x2_1 p108 q108
            obtain rfl : ad107 = ad108 := (by injection e108)
            replace p108 := eq_true p108
            replace q108 := eq_true q108
            go_wp2
            repeat (go_quiet (fail); try go_wp2)
            go_ret
            exact ⟨by first | rfl | (simp [errW_none, errW_some] <;> rfl) | (simp [*, errW_none, errW_some] <;> rfl), by repeat (first | (with_reducible first | exact HB.out | apply below_alloc | apply pw_below_drewN | apply below_drew1) | exact HB.out)⟩
        · rw [if_neg c4] at H
          exact absurd H (by simp)
      · rw [if_neg c3] at H
        have c3b0 : decide (x2_1 < (t104.length : Int)) = false := decide_eq_false c3
        clear c3
        replace H := Option.bind_eq_some_iff.mp H
        obtain ⟨t109, A80, H⟩ := H
        replace H : (if t109 = true then ((word_Ok.f 0).bind fun t110 => (some (!t110))) else (some false)) = some r := H
        have A8 := Aside0.mk A80
        clear A80
        by_cases c9 : t109 = true
        · subst c9
          have H1 : ((word_Ok.f 0).bind fun t110 => (some (!t110))) = some r := by rw [if_pos rfl] at H; exact H
          clear H
          have H := H1
          clear H1
          replace H := Option.bind_eq_some_iff.mp H
          obtain ⟨t110, A100, H⟩ := H
          replace H : (some (!t110)) = some r := H
          have A10 := Aside0.mk A100
          clear A100
          obtain rfl := Option.some.inj H
          obtain ⟨Ao11, co11, eo11⟩ := Kd.R_slice HO_1.out
          subst eo11
          go_wp2_with (first | (go_at_call 10; (with_reducible refine (word_Ok.calls 1 true _ A8.out).mono ?_); rintro e w' ⟨rfl, ⟨nd, rfl⟩⟩; (try first | exact ⟨rfl, _, World.drewN_drewN _ _ _⟩ | exact ⟨rfl, _, Eq.trans (World.drewN_drewN _ _ _) (congrArg (World.drewN _) (Nat.add_assoc _ _ _))⟩)) | (go_at_call 10; (with_reducible refine (word_Ok.calls 0 t110 _ A10.out).mono ?_); rintro e w' ⟨rfl, ⟨nd, rfl⟩⟩; (try first | exact ⟨rfl, _, World.drewN_drewN _ _ _⟩ | exact ⟨rfl, _, Eq.trans (World.drewN_drewN _ _ _) (congrArg (World.drewN _) (Nat.add_assoc _ _ _))⟩)))
          repeat (go_quiet (first | (go_at_call 10; (with_reducible refine (word_Ok.calls 1 true _ A8.out).mono ?_); rintro e w' ⟨rfl, ⟨nd, rfl⟩⟩; (try first | exact ⟨rfl, _, World.drewN_drewN _ _ _⟩ | exact ⟨rfl, _, Eq.trans (World.drewN_drewN _ _ _) (congrArg (World.drewN _) (Nat.add_assoc _ _ _))⟩)) | (go_at_call 10; (with_reducible refine (word_Ok.calls 0 t110 _ A10.out).mono ?_); rintro e w' ⟨rfl, ⟨nd, rfl⟩⟩; (try first | exact ⟨rfl, _, World.drewN_drewN _ _ _⟩ | exact ⟨rfl, _, Eq.trans (World.drewN_drewN _ _ _) (congrArg (World.drewN _) (Nat.add_assoc _ _ _))⟩))); try go_wp2_with (first | (go_at_call 10; (with_reducible refine (word_Ok.calls 1 true _ A8.out).mono ?_); rintro e w' ⟨rfl, ⟨nd, rfl⟩⟩; (try first | exact ⟨rfl, _, World.drewN_drewN _ _ _⟩ | exact ⟨rfl, _, Eq.trans (World.drewN_drewN _ _ _) (congrArg (World.drewN _) (Nat.add_assoc _ _ _))⟩)) | (go_at_call 10; (with_reducible refine (word_Ok.calls 0 t110 _ A10.out).mono ?_); rintro e w' ⟨rfl, ⟨nd, rfl⟩⟩; (try first | exact ⟨rfl, _, World.drewN_drewN _ _ _⟩ | exact ⟨rfl, _, Eq.trans (World.drewN_drewN _ _ _) (congrArg (World.drewN _) (Nat.add_assoc _ _ _))⟩))))
          go_ret
          exact ⟨by first | rfl | (simp [errW_none, errW_some] <;> rfl) | (simp [*, errW_none, errW_some] <;> rfl), by repeat (first | (with_reducible first | exact HB.out | apply below_alloc | apply pw_below_drewN | apply below_drew1) | exact HB.out)⟩
        · replace c9 := Bool.eq_false_iff.mpr c9
          subst c9
          have H1 : (some false) = some r := by rw [if_neg (show ¬ (false = true) by decide)] at H; exact H
          clear H
          have H := H1
          clear H1
          obtain rfl := Option.some.inj H
          obtain ⟨Ao12, co12, eo12⟩ := Kd.R_slice HO_1.out
          subst eo12
          go_wp2_with (first | (go_at_call 10; (with_reducible refine (word_Ok.calls 1 false _ A8.out).mono ?_); rintro e w' ⟨rfl, ⟨nd, rfl⟩⟩; (try first | exact ⟨rfl, _, World.drewN_drewN _ _ _⟩ | exact ⟨rfl, _, Eq.trans (World.drewN_drewN _ _ _) (congrArg (World.drewN _) (Nat.add_assoc _ _ _))⟩)))
          repeat (go_quiet (first | (go_at_call 10; (with_reducible refine (word_Ok.calls 1 false _ A8.out).mono ?_); rintro e w' ⟨rfl, ⟨nd, rfl⟩⟩; (try first | exact ⟨rfl, _, World.drewN_drewN _ _ _⟩ | exact ⟨rfl, _, Eq.trans (World.drewN_drewN _ _ _) (congrArg (World.drewN _) (Nat.add_assoc _ _ _))⟩))); try go_wp2_with (first | (go_at_call 10; (with_reducible refine (word_Ok.calls 1 false _ A8.out).mono ?_); rintro e w' ⟨rfl, ⟨nd, rfl⟩⟩; (try first | exact ⟨rfl, _, World.drewN_drewN _ _ _⟩ | exact ⟨rfl, _, Eq.trans (World.drewN_drewN _ _ _) (congrArg (World.drewN _) (Nat.add_assoc _ _ _))⟩))))
          go_ret
          exact ⟨by first | rfl | (simp [errW_none, errW_some] <;> rfl) | (simp [*, errW_none, errW_some] <;> rfl), by repeat (first | (with_reducible first | exact HB.out | apply below_alloc | apply pw_below_drewN | apply below_drew1) | exact HB.out)⟩

/-- THE ONE PURE STATEMENT of augurylaw0_NamesNumbers: yours. -/
def augurylaw0_NamesNumbers.Pure : Prop := ∃ k, augurylaw0_NamesNumbers.f k  = some true
theorem augurylaw0_NamesNumbers.walk (P : augurylaw0_NamesNumbers.Pure)  (w : World)  :
    Calls Try.prog 3 #[] w fun e w' => e = .returned (.bool true) ∧ Below w.heap.size w w' := by
  obtain ⟨k, h⟩ := P  
  refine (augurylaw0_NamesNumbers.calls k  true w h).mono ?_
  rintro e w' ⟨rfl, hd⟩
  exact ⟨rfl, hd⟩

end Go.Proofs.Ytogihgkicpbafaa.PNamesNumbers
