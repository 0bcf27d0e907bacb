import Derived.Test.YtogihgkicpbafaaFits1
namespace Go.Proofs.Ytogihgkicpbafaa.Ax
open Go.RowKit Go.Proofs.Ytogihgkicpbafaa.Pure Go.Proofs.YtogihgkicpbafaaW.PrintWords
set_option linter.unusedVariables false
def iA (n : Int) : A := A.c (D.int IntKind.i64 n)
def no8 : VC := VC.ret (some (RR.c (Rc.d (D.bool false))))
def tree8 (sp : Sp) (W OP X Y X' Y' S : Int) : VC :=
  .need ((10 : Int) ≠ 0) <| .need ((0 : Int) ≤ 8) <| .need ((0 : Int) ≤ 8) <| .need (sp.pre 14 [iA W]) <| .need (sp.pre 11 [iA W, iA OP, iA X, iA Y]) <| .need (sp.pre 11 [iA W, iA OP, iA X', iA Y']) <|
  .br (!(Pure.D W OP X Y).2) no8 <| .br (!(Pure.D W OP X' Y').2) no8 <| .br ((Pure.D W OP X Y).1 != (Pure.D W OP X' Y').1) no8 <| .br (decide ((Pure.D W OP X Y).1 < 0)) no8 <| .br (decide (S ≤ (Pure.D W OP X Y).1)) no8 <|
  .need (sp.pre 12 [iA W, iA X]) <| .br (decide (X % S < 0)) no8 <| .need (sp.pre 12 [iA W, iA X]) <| .br (decide (S ≤ X % S)) no8 <|
  .need (sp.pre 12 [iA W, iA X']) <| .need (sp.pre 12 [iA W, iA X]) <| .br (X' % S != X % S) no8 <|
  .need (sp.pre 11 [iA W, iA 1, iA X, iA Y]) <| .need (sp.pre 11 [iA W, iA 2, iA (Pure.D W 1 X Y).1, iA Y]) <| .need (sp.pre 11 [iA W, iA 5, iA X, iA Y]) <| .need (sp.pre 11 [iA W, iA 5, iA (Pure.D W 5 X Y).1, iA Y]) <|
  .need (sp.pre 11 [iA W, iA 9, iA X, iA Y]) <| .need (sp.pre 11 [iA W, iA 9, iA Y, iA X]) <| .need (sp.pre 11 [iA W, iA 10, iA X, iA Y]) <| .need (sp.pre 12 [iA W, iA X]) <|
  .br ((Pure.D W 2 (Pure.D W 1 X Y).1 Y).1 == X % S) (.br ((Pure.D W 5 (Pure.D W 5 X Y).1 Y).1 == (Pure.D W 2 (Pure.D W 1 X Y).1 Y).1)
    (.br (IntKind.wrap .i64 (IntKind.wrap .i64 ((Pure.D W 9 X Y).1 + (Pure.D W 9 Y X).1) + (Pure.D W 10 X Y).1) == 1) (.need (sp.pre 13 []) (.ret (some (.c (.d (.bool true)))))) no8) no8) no8
def W8 (w : Int) : Int := IntKind.wrap .i64 (bits .and .i64 w 15 + 1)
def P8 (op : Int) : Int := IntKind.wrap .i64 (Int.tmod (bits .and .i64 op 255) 10 + 1)
theorem t8 (w op a b : Int) : fa8.start sp8 300 [.c (.int .i64 w), .c (.int .i64 op), .c (.int .i64 a), .c (.int .i64 b)] =
    tree8 sp8 (W8 w) (P8 op) (Int.fdiv a (2 ^ 8)) (Int.fdiv b (2 ^ 8)) (IntKind.wrap .i64 (Int.fdiv a (2 ^ 8) + 2 ^ (W8 w).toNat)) (IntKind.wrap .i64 (Int.fdiv b (2 ^ 8) - 2 ^ (W8 w).toNat)) (2 ^ (W8 w).toNat) := by kernel_rfl
theorem p11 (W OP X Y : Int) (h1 : 1 ≤ W) (h2 : W ≤ 16) : sp8.pre 11 [iA W, iA OP, iA X, iA Y] := ⟨W, OP, X, Y, rfl, h1, h2⟩
theorem p12 (W X : Int) (h1 : 1 ≤ W) (h2 : W ≤ 16) : sp8.pre 12 [iA W, iA X] := ⟨W, X, rfl, h1, h2⟩
theorem fits_calls (w op a b : Int) (ha : -9223372036854775808 ≤ a ∧ a ≤ 9223372036854775807) (hb : -9223372036854775808 ≤ b ∧ b ≤ 9223372036854775807) :
    ACalls Try.prog 8 [.c (.int .i64 w), .c (.int .i64 op), .c (.int .i64 a), .c (.int .i64 b)] (.c (.d (.bool true))) := by
  refine acalls_of sp8_sound (fn := Try.f8) (a := fa8) (nargs := 4) (tbl := []) (by kernel_rfl) (by kernel_rfl) rfl (m := 300) ?_
  rw [t8]
  have hW : 1 ≤ W8 w ∧ W8 w ≤ 16 := by
    unfold W8
    rw [Pure.and15, i64w _ (by omega) (by omega)]; omega
  have hP : 1 ≤ P8 op ∧ P8 op ≤ 10 := by
    unfold P8
    rw [Pure.and255, tmod_pos _ _ (by omega), i64w _ (by omega) (by omega)]; omega
  generalize W8 w = W at hW
  generalize P8 op = OP at hP
  obtain ⟨h1, h2⟩ := hW
  have fa : Int.fdiv a (2 ^ 8) = a / 256 := Int.fdiv_eq_ediv_of_nonneg a (by decide)
  have fb : Int.fdiv b (2 ^ 8) = b / 256 := Int.fdiv_eq_ediv_of_nonneg b (by decide)
  have hp := Pure.pow_pos2 W.toNat
  have hl := Pure.pow_le16 W.toNat (by omega)
  rw [fa, fb, i64w (a / 256 + 2 ^ W.toNat) (by omega) (by omega), i64w (b / 256 - 2 ^ W.toNat) (by omega) (by omega)]
  generalize a / 256 = X
  generalize b / 256 = Y
  have hs : Pure.D W OP (X + 2 ^ W.toNat) (Y - 2 ^ W.toNat) = Pure.D W OP X Y := D_same W OP _ _ _ _ (Int.add_emod_right _ _) (Int.sub_emod_right _ _)
  obtain ⟨f1, f2, f3⟩ := D_fits W OP X Y h1 h2 hP.1 hP.2
  obtain ⟨m1, m2, _⟩ := word_bd W X h2
  obtain ⟨b0, b1, _⟩ := word_bd W Y h2
  have na := nat_lt _ _ m1 m2
  have nb := nat_lt _ _ b0 b1
  have e1 : (Pure.D W 2 (Pure.D W 1 X Y).1 Y).1 = X % 2 ^ W.toNat := by
    show ((X % 2 ^ W.toNat + Y % 2 ^ W.toNat) % 2 ^ W.toNat % 2 ^ W.toNat - Y % 2 ^ W.toNat) % 2 ^ W.toNat = _
    rw [Int.emod_emod, ← Int.add_emod, ← Int.sub_emod, Int.add_sub_cancel]
  have e2 : (Pure.D W 5 (Pure.D W 5 X Y).1 Y).1 = X % 2 ^ W.toNat := by
    show (((((((X % 2 ^ W.toNat).toNat ^^^ (Y % 2 ^ W.toNat).toNat : Nat) : Int) % 2 ^ W.toNat).toNat ^^^ (Y % 2 ^ W.toNat).toNat : Nat)) : Int) = _
    have hx : (X % 2 ^ W.toNat).toNat ^^^ (Y % 2 ^ W.toNat).toNat < 2 ^ W.toNat := Nat.xor_lt_two_pow na nb
    rw [Int.emod_eq_of_lt (by omega) (by exact_mod_cast hx), Int.toNat_natCast, Nat.xor_assoc, Nat.xor_self, Nat.xor_zero, Int.toNat_of_nonneg m1]
  have e3 : IntKind.wrap .i64 (IntKind.wrap .i64 ((Pure.D W 9 X Y).1 + (Pure.D W 9 Y X).1) + (Pure.D W 10 X Y).1) = 1 := by
    show IntKind.wrap .i64 (IntKind.wrap .i64 ((if X % 2 ^ W.toNat < Y % 2 ^ W.toNat then 1 else 0) + (if Y % 2 ^ W.toNat < X % 2 ^ W.toNat then 1 else 0)) + (if X % 2 ^ W.toNat = Y % 2 ^ W.toNat then 1 else 0)) = 1
    rcases Int.lt_trichotomy (X % 2 ^ W.toNat) (Y % 2 ^ W.toNat) with h | h | h
    · rw [if_pos h, if_neg (by omega), if_neg (by omega)]; decide
    · rw [if_neg (by omega), if_neg (by omega), if_pos h]; decide
    · rw [if_neg (by omega), if_pos h, if_neg (by omega)]; decide
  unfold tree8
  rw [hs, f1, e1, e2, e3]
  refine ⟨by decide, by decide, by decide, ⟨W, rfl, h1, h2⟩, p11 _ _ _ _ h1 h2, p11 _ _ _ _ h1 h2, ?_⟩
  refine br_holds (fun h => by simp at h) fun _ => br_holds (fun h => by simp at h) fun _ => br_holds (fun h => by simp at h) fun _ => br_holds (fun h => by simp at h; omega) fun _ => br_holds (fun h => by simp at h; omega) fun _ => ?_
  refine ⟨p12 _ _ h1 h2, br_holds (fun h => by simp at h; omega) fun _ => ⟨p12 _ _ h1 h2, br_holds (fun h => by simp at h; omega) fun _ => ⟨p12 _ _ h1 h2, p12 _ _ h1 h2, br_holds (fun h => by simp at h) fun _ => ?_⟩⟩⟩
  refine ⟨p11 _ _ _ _ h1 h2, p11 _ _ _ _ h1 h2, p11 _ _ _ _ h1 h2, p11 _ _ _ _ h1 h2, p11 _ _ _ _ h1 h2, p11 _ _ _ _ h1 h2, p11 _ _ _ _ h1 h2, p12 _ _ h1 h2, ?_⟩
  exact br_holds (fun _ => br_holds (fun _ => br_holds (fun _ => ⟨rfl, rfl⟩) (fun h => by simp at h)) (fun h => by simp at h)) (fun h => by simp at h)
end Go.Proofs.Ytogihgkicpbafaa.Ax
