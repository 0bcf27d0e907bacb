/- Adding, and-ing, or-ing, exclusive or-ing and multiplying are commutative and associative; moved up and down again a word keeps its low places. For all four whole numbers; no condition. -/
import Derived.Test.YtogihgkicpbafaaPWordLawsx2
namespace Go.Proofs.Ytogihgkicpbafaa.Pure
open Go.RowKit Go.Proofs.Ytogihgkicpbafaa.PWordLaws Go.Proofs.YtogihgkicpbafaaW.PrintWords Go.Proofs.YtogihgkicpbafaaW.PrintLast Go.Proofs.YtogihgkicpbafaaW.PrintMore

theorem pow_pos2 (w : Nat) : (0 : Int) < 2 ^ w := by
  have h : 0 < 2 ^ w := Nat.two_pow_pos w
  exact_mod_cast h
theorem pow_le16 (w : Nat) (h : w ≤ 16) : (2 : Int) ^ w ≤ 65536 := by
  have h1 : (2 : Nat) ^ w ≤ 2 ^ 16 := Nat.pow_le_pow_right (by decide) h
  have h2 : (2 : Int) ^ w = ((2 ^ w : Nat) : Int) := by simp
  have h3 : (2 : Nat) ^ 16 = 65536 := rfl
  rw [h2]; omega
theorem w64 (n : Int) (h0 : -9223372036854775808 ≤ n) (h1 : n ≤ 9223372036854775807) : wrap64 n = n := by
  unfold wrap64; omega
theorem i64w (n : Int) (h0 : -9223372036854775808 ≤ n) (h1 : n ≤ 9223372036854775807) : IntKind.i64.wrap n = n := by
  rw [IntKind.wrap_i64]; omega
theorem and_mask (a : Int) (w : Nat) (hw : w ≤ 16) : Go.bits .and .i64 a (2 ^ w - 1) = a % 2 ^ w := by
  have hp : (2 : Nat) ^ w ≤ 2 ^ 16 := Nat.pow_le_pow_right (by decide) hw
  have hpos : 0 < 2 ^ w := Nat.two_pow_pos w
  have hm : ((2 : Int) ^ w - 1) = ((2 ^ w - 1 : Nat) : Int) := by
    rw [Int.natCast_sub hpos]; simp
  have h64 : (2 ^ w - 1) % 2 ^ IntKind.i64.bits = 2 ^ w - 1 := Nat.mod_eq_of_lt (by simp only [IntKind.bits]; omega)
  rw [hm]
  simp only [bits, BitVec.toNat_and, BitVec.ofInt_natCast, BitVec.toNat_ofNat, BitVec.toNat_ofInt, h64]
  rw [Nat.and_two_pow_sub_one_eq_mod]
  have hd : ((2 ^ w : Nat) : Int) ∣ ((2 ^ IntKind.i64.bits : Nat) : Int) := by
    exact_mod_cast Nat.pow_dvd_pow 2 (by simp only [IntKind.bits]; omega)
  have hnn : 0 ≤ a % ((2 ^ IntKind.i64.bits : Nat) : Int) := Int.emod_nonneg _ (by simp [IntKind.bits])
  have e : (((a % ((2 ^ IntKind.i64.bits : Nat) : Int)).toNat % 2 ^ w : Nat) : Int) = a % 2 ^ w := by
    rw [Int.natCast_emod, Int.toNat_of_nonneg hnn, Int.emod_emod_of_dvd _ hd]; simp
  rw [e]
  have h0 := Int.emod_nonneg a (Int.ne_of_gt (pow_pos2 w))
  have h1 := Int.emod_lt_of_pos a (pow_pos2 w)
  have h2 := pow_le16 w hw
  exact i64w _ (by omega) (by omega)
theorem and15 (a : Int) : Go.bits .and .i64 a 15 = a % 16 := and_mask a 4 (by decide)
theorem and31 (a : Int) : Go.bits .and .i64 a 31 = a % 32 := and_mask a 5 (by decide)
theorem and7 (a : Int) : Go.bits .and .i64 a 7 = a % 8 := and_mask a 3 (by decide)
theorem and255 (a : Int) : Go.bits .and .i64 a 255 = a % 256 := and_mask a 8 (by decide)
theorem tmod_pos (a s : Int) (h : 0 ≤ a) : Int.tmod a s = a % s := Int.tmod_eq_emod_of_nonneg h

theorem width_ok (a : Int) : 1 ≤ wrap64 (Go.bits .and .i64 a 15 + 1) ∧ wrap64 (Go.bits .and .i64 a 15 + 1) ≤ 16 := by
  rw [and15, w64 _ (by omega) (by omega)]; omega

theorem ok_in (w : Int) (h1 : 1 ≤ w) (h2 : w ≤ 16) : word_Ok.f w = some true := by
  unfold word_Ok.f; rw [if_pos (by omega), decide_eq_true h2]
theorem ok_out (w : Int) (h : w < 1 ∨ 16 < w) : word_Ok.f w = some false := by
  unfold word_Ok.f
  by_cases c : w ≥ 1
  · rw [if_pos c, decide_eq_false (by omega)]
  · rw [if_neg c]
theorem size_in (w : Int) (h1 : 1 ≤ w) (h2 : w ≤ 16) : word_Size.f w = some (2 ^ w.toNat) := by
  have hp := pow_pos2 w.toNat
  have hl := pow_le16 w.toNat (by omega)
  unfold word_Size.f; rw [ok_in w h1 h2]; simp only [Option.bind_some, if_true]; rw [if_pos (by omega)]
  unfold shl; rw [Int.one_mul, Nat.min_eq_left (by simp only [IntKind.bits]; omega), i64w _ (by omega) (by omega)]
theorem size_out (w : Int) (h : w < 1 ∨ 16 < w) : word_Size.f w = some 0 := by
  unfold word_Size.f; rw [ok_out w h]; rfl
theorem mask_in (w n : Int) (h1 : 1 ≤ w) (h2 : w ≤ 16) : word_Mask.f w n = some (n % 2 ^ w.toNat) := by
  have hp := pow_pos2 w.toNat
  have hl := pow_le16 w.toNat (by omega)
  unfold word_Mask.f; rw [ok_in w h1 h2, size_in w h1 h2]; simp only [Option.bind_some, if_true]
  rw [w64 _ (by omega) (by omega), and_mask n w.toNat (by omega)]
theorem mask_out (w n : Int) (h : w < 1 ∨ 16 < w) : word_Mask.f w n = some 0 := by
  unfold word_Mask.f; rw [ok_out w h]; rfl

/-- What an op comes to, in a width that may be. -/
def D (w op a b : Int) : Int × Bool :=
  if op = 1 then ((a % 2 ^ w.toNat + b % 2 ^ w.toNat) % 2 ^ w.toNat, true)
  else if op = 2 then ((a % 2 ^ w.toNat - b % 2 ^ w.toNat) % 2 ^ w.toNat, true)
  else if op = 3 then ((((a % 2 ^ w.toNat).toNat &&& (b % 2 ^ w.toNat).toNat : Nat) : Int), true)
  else if op = 4 then ((((a % 2 ^ w.toNat).toNat ||| (b % 2 ^ w.toNat).toNat : Nat) : Int), true)
  else if op = 5 then ((((a % 2 ^ w.toNat).toNat ^^^ (b % 2 ^ w.toNat).toNat : Nat) : Int), true)
  else if op = 6 then (if b % 2 ^ w.toNat ≥ w then 0 else (a % 2 ^ w.toNat * 2 ^ (b % 2 ^ w.toNat).toNat) % 2 ^ w.toNat, true)
  else if op = 7 then (if b % 2 ^ w.toNat ≥ w then 0 else a % 2 ^ w.toNat / 2 ^ (b % 2 ^ w.toNat).toNat, true)
  else if op = 8 then ((a % 2 ^ w.toNat * (b % 2 ^ w.toNat)) % 2 ^ w.toNat, true)
  else if op = 9 then (if a % 2 ^ w.toNat < b % 2 ^ w.toNat then 1 else 0, true)
  else if op = 10 then (if a % 2 ^ w.toNat = b % 2 ^ w.toNat then 1 else 0, true)
  else (0, false)

theorem bits_xor (a b : Nat) (ha : a < 2 ^ 16) (hb : b < 2 ^ 16) : Go.bits .xor .i64 a b = ((a ^^^ b : Nat) : Int) := by
  have hx : a ^^^ b < 2 ^ 16 := Nat.xor_lt_two_pow ha hb
  have ha' : a % 2 ^ IntKind.i64.bits = a := Nat.mod_eq_of_lt (by simp only [IntKind.bits]; omega)
  have hb' : b % 2 ^ IntKind.i64.bits = b := Nat.mod_eq_of_lt (by simp only [IntKind.bits]; omega)
  simp only [bits, BitVec.ofInt_natCast, BitVec.toNat_xor, BitVec.toNat_ofNat, ha', hb']
  exact i64w _ (by omega) (by omega)
theorem bits_and (a b : Nat) (ha : a < 2 ^ 16) (hb : b < 2 ^ 16) : Go.bits .and .i64 a b = ((a &&& b : Nat) : Int) :=
  (bits_nat .i64 16 (by decide) (fun n h0 h1 => i64w n (by omega) (by omega)) a b ha hb).1
theorem bits_or (a b : Nat) (ha : a < 2 ^ 16) (hb : b < 2 ^ 16) : Go.bits .or .i64 a b = ((a ||| b : Nat) : Int) :=
  (bits_nat .i64 16 (by decide) (fun n h0 h1 => i64w n (by omega) (by omega)) a b ha hb).2

theorem word_bd (w n : Int) (h2 : w ≤ 16) : 0 ≤ n % 2 ^ w.toNat ∧ n % 2 ^ w.toNat < 2 ^ w.toNat ∧ (2 : Int) ^ w.toNat ≤ 65536 := by
  have hp := pow_pos2 w.toNat
  exact ⟨Int.emod_nonneg n (by omega), Int.emod_lt_of_pos n hp, pow_le16 w.toNat (by omega)⟩

theorem shl_in (A B w : Int) (h2 : w ≤ 16) (a0 : 0 ≤ A) (a1 : A < 65536) (b1 : B < w) : shl .i64 A B = A * 2 ^ B.toNat := by
  have hp := pow_pos2 B.toNat
  have hl := pow_le16 B.toNat (by omega)
  have hm : A * 2 ^ B.toNat ≤ 65536 * 65536 := Int.mul_le_mul (by omega) hl (by omega) (by omega)
  have h0 : 0 ≤ A * 2 ^ B.toNat := Int.mul_nonneg a0 (by omega)
  unfold shl; rw [Nat.min_eq_left (by simp only [IntKind.bits]; omega), i64w _ (by omega) (by omega)]
theorem shr_in (A B w : Int) (h2 : w ≤ 16) (b1 : B < w) : shr .i64 A B = A / 2 ^ B.toNat := by
  unfold shr; rw [Nat.min_eq_left (by simp only [IntKind.bits]; omega)]

theorem div_lt (A S : Int) (n : Nat) (a0 : 0 ≤ A) (a1 : A < S) : 0 ≤ A / 2 ^ n ∧ A / 2 ^ n < S := by
  have hp := pow_pos2 n
  have h0 : 0 ≤ A / 2 ^ n := Int.ediv_nonneg a0 (by omega)
  have h1 : A / 2 ^ n ≤ A := Int.ediv_le_self _ a0
  exact ⟨h0, by omega⟩

theorem nat_lt (n : Int) (w : Nat) (h0 : 0 ≤ n) (h1 : n < 2 ^ w) : n.toNat < 2 ^ w := by
  have : (n.toNat : Int) < ((2 ^ w : Nat) : Int) := by rw [Int.toNat_of_nonneg h0]; simpa using h1
  exact_mod_cast this

theorem do_in (k : Nat) (w op a b : Int) (h1 : 1 ≤ w) (h2 : w ≤ 16) : word_Do.f (k + 1) w op a b = some (D w op a b) := by
  obtain ⟨a0, a1, hl⟩ := word_bd w a h2
  obtain ⟨b0, b1, _⟩ := word_bd w b h2
  have hp := pow_pos2 w.toNat
  have na := nat_lt _ _ a0 a1
  have nb := nat_lt _ _ b0 b1
  have hN : 2 ^ w.toNat ≤ 2 ^ 16 := Nat.pow_le_pow_right (by decide) (by omega)
  have hmul : a % 2 ^ w.toNat * (b % 2 ^ w.toNat) ≤ 65536 * 65536 := Int.mul_le_mul (by omega) (by omega) (by omega) (by omega)
  have hmul0 : 0 ≤ a % 2 ^ w.toNat * (b % 2 ^ w.toNat) := Int.mul_nonneg a0 b0
  have bd : ∀ n : Nat, n < 2 ^ w.toNat → ((n : Int)) % 2 ^ w.toNat = n := fun n h =>
    Int.emod_eq_of_lt (by omega) (by exact_mod_cast h)
  have M := fun n => mask_in w n h1 h2
  unfold word_Do.f
  rw [ok_in w h1 h2, M, M]
  simp only [Option.bind_some, if_true]
  generalize hA : a % 2 ^ w.toNat = A at *
  generalize hB : b % 2 ^ w.toNat = B at *
  unfold D
  rw [hA, hB]
  by_cases e1 : op = 1
  · rw [if_pos e1, if_pos e1, M, w64 _ (by omega) (by omega)]; rfl
  rw [if_neg e1, if_neg e1]
  by_cases e2 : op = 2
  · rw [if_pos e2, if_pos e2, M, w64 _ (by omega) (by omega)]; rfl
  rw [if_neg e2, if_neg e2]
  by_cases e3 : op = 3
  · rw [if_pos e3, if_pos e3, M]
    have hb : Go.bits .and .i64 A B = ((A.toNat &&& B.toNat : Nat) : Int) := by
      have := bits_and A.toNat B.toNat (by omega) (by omega)
      rwa [Int.toNat_of_nonneg a0, Int.toNat_of_nonneg b0] at this
    rw [hb, bd _ (Nat.and_lt_two_pow _ nb)]; rfl
  rw [if_neg e3, if_neg e3]
  by_cases e4 : op = 4
  · rw [if_pos e4, if_pos e4, M]
    have hb : Go.bits .or .i64 A B = ((A.toNat ||| B.toNat : Nat) : Int) := by
      have := bits_or A.toNat B.toNat (by omega) (by omega)
      rwa [Int.toNat_of_nonneg a0, Int.toNat_of_nonneg b0] at this
    rw [hb, bd _ (Nat.or_lt_two_pow na nb)]; rfl
  rw [if_neg e4, if_neg e4]
  by_cases e5 : op = 5
  · rw [if_pos e5, if_pos e5, M]
    have hb : Go.bits .xor .i64 A B = ((A.toNat ^^^ B.toNat : Nat) : Int) := by
      have := bits_xor A.toNat B.toNat (by omega) (by omega)
      rwa [Int.toNat_of_nonneg a0, Int.toNat_of_nonneg b0] at this
    rw [hb, bd _ (Nat.xor_lt_two_pow na nb)]; rfl
  rw [if_neg e5, if_neg e5]
  by_cases e6 : op = 6
  · rw [if_pos e6, if_pos e6, e6]
    simp only [word_Do.j0, beq_self_eq_true, if_true]
    unfold word_moved.f
    by_cases c : B ≥ w
    · rw [if_pos c, if_pos c]; simp only [Option.bind_some]; rw [M]; rfl
    · rw [if_neg c, if_neg c, if_pos rfl, if_pos b0, shl_in A B w h2 a0 (by omega) (by omega)]; simp only [Option.bind_some]; rw [M]; rfl
  rw [if_neg e6, if_neg e6]
  simp only [word_Do.j0]
  by_cases e7 : op = 7
  · rw [if_pos e7, if_pos (by rw [e7]; rfl)]
    unfold word_moved.f
    by_cases c : B ≥ w
    · rw [if_pos c, if_pos c]; simp only [Option.bind_some]; rw [M]; rfl
    · obtain ⟨d0, d1⟩ := div_lt A _ B.toNat a0 a1
      rw [if_neg c, if_neg c, if_neg (by omega), if_pos b0, shr_in A B w h2 (by omega)]; simp only [Option.bind_some]; rw [M, Int.emod_eq_of_lt d0 d1]; rfl
  rw [if_neg e7, if_neg (by simpa using e7)]
  by_cases e8 : op = 8
  · rw [if_pos e8, if_pos e8, w64 _ (by omega) (by omega), M]; rfl
  rw [if_neg e8, if_neg e8]
  have hS : (2 : Int) ≤ 2 ^ w.toNat := by
    have : (2 : Nat) ^ 1 ≤ 2 ^ w.toNat := Nat.pow_le_pow_right (by decide) (by omega)
    exact_mod_cast this
  by_cases e9 : op = 9
  · rw [if_pos e9, if_pos e9]
    unfold word_truth.f
    by_cases c : A < B
    · rw [if_pos c, if_pos (by simpa using c)]; simp only [Option.bind_some]; rw [M, Int.emod_eq_of_lt (by omega) (by omega)]; rfl
    · rw [if_neg c, if_neg (by simpa using c)]; simp only [Option.bind_some]; rw [M]; rfl
  rw [if_neg e9, if_neg e9]
  by_cases e10 : op = 10
  · rw [if_pos e10, if_pos e10]
    unfold word_truth.f
    by_cases c : A = B
    · rw [if_pos c, if_pos (by simpa using c)]; simp only [Option.bind_some]; rw [M, Int.emod_eq_of_lt (by omega) (by omega)]; rfl
    · rw [if_neg c, if_neg (by simpa using c)]; simp only [Option.bind_some]; rw [M]; rfl
  rw [if_neg e10, if_neg e10]
theorem do_out (k : Nat) (w op a b : Int) (h : w < 1 ∨ 16 < w) : word_Do.f k w op a b = some (0, false) := by
  unfold word_Do.f; rw [ok_out w h]; rfl
theorem awake_ok (k : Nat) : augurylaw1_awake.f (k + 1) = some true := by
  unfold augurylaw1_awake.f
  rw [do_in k 2 1 3 2 (by decide) (by decide), do_in k 3 6 3 2 (by decide) (by decide), do_in k 16 8 300 300 (by decide) (by decide), do_out (k + 1) 0 1 1 1 (by decide)]
  decide +kernel

theorem add3 (x y z s : Int) : ((x % s + y % s) % s % s + z % s) % s = (x % s + (y % s + z % s) % s % s) % s := by
  rw [Int.emod_emod, Int.emod_emod, ← Int.add_emod x y s, ← Int.add_emod (x + y) z s, ← Int.add_emod y z s, ← Int.add_emod x (y + z) s, Int.add_assoc]
theorem mul3 (x y z s : Int) : ((x % s * (y % s)) % s % s * (z % s)) % s = (x % s * ((y % s * (z % s)) % s % s)) % s := by
  rw [Int.emod_emod, Int.emod_emod, ← Int.mul_emod x y s, ← Int.mul_emod (x * y) z s, ← Int.mul_emod y z s, ← Int.mul_emod x (y * z) s, Int.mul_assoc]
theorem D_comm (w op a b : Int) (ho : op = 1 ∨ op = 3 ∨ op = 4 ∨ op = 5 ∨ op = 8) : D w op a b = D w op b a := by
  unfold D
  obtain rfl | rfl | rfl | rfl | rfl := ho
  · show (_, true) = (_, true); rw [Int.add_comm]
  · show (_, true) = (_, true); rw [Nat.and_comm]
  · show (_, true) = (_, true); rw [Nat.or_comm]
  · show (_, true) = (_, true); rw [Nat.xor_comm]
  · show (_, true) = (_, true); rw [Int.mul_comm]
theorem D_assoc (w op a b c : Int) (h2 : w ≤ 16) (ho : op = 1 ∨ op = 3 ∨ op = 4 ∨ op = 5 ∨ op = 8) : (D w op (D w op a b).1 c).1 = (D w op a (D w op b c).1).1 := by
  obtain ⟨a0, a1, hl⟩ := word_bd w a h2
  obtain ⟨b0, b1, _⟩ := word_bd w b h2
  obtain ⟨c0, c1, _⟩ := word_bd w c h2
  have na := nat_lt _ _ a0 a1
  have nb := nat_lt _ _ b0 b1
  have nc := nat_lt _ _ c0 c1
  have bd : ∀ n : Nat, n < 2 ^ w.toNat → ((n : Int) % 2 ^ w.toNat).toNat = n := fun n h => by
    rw [Int.emod_eq_of_lt (by omega) (by exact_mod_cast h), Int.toNat_natCast]
  unfold D
  obtain rfl | rfl | rfl | rfl | rfl := ho
  · show (((a % 2 ^ w.toNat + b % 2 ^ w.toNat) % 2 ^ w.toNat) % 2 ^ w.toNat + c % 2 ^ w.toNat) % 2 ^ w.toNat = (a % 2 ^ w.toNat + (b % 2 ^ w.toNat + c % 2 ^ w.toNat) % 2 ^ w.toNat % 2 ^ w.toNat) % 2 ^ w.toNat
    exact add3 a b c _
  · show (((((((a % 2 ^ w.toNat).toNat &&& (b % 2 ^ w.toNat).toNat : Nat) : Int) % 2 ^ w.toNat).toNat &&& (c % 2 ^ w.toNat).toNat : Nat)) : Int) = ((((a % 2 ^ w.toNat).toNat &&& ((((b % 2 ^ w.toNat).toNat &&& (c % 2 ^ w.toNat).toNat : Nat) : Int) % 2 ^ w.toNat).toNat : Nat)) : Int)
    rw [bd _ (Nat.and_lt_two_pow _ nb), bd _ (Nat.and_lt_two_pow _ nc), Nat.and_assoc]
  · show (((((((a % 2 ^ w.toNat).toNat ||| (b % 2 ^ w.toNat).toNat : Nat) : Int) % 2 ^ w.toNat).toNat ||| (c % 2 ^ w.toNat).toNat : Nat)) : Int) = ((((a % 2 ^ w.toNat).toNat ||| ((((b % 2 ^ w.toNat).toNat ||| (c % 2 ^ w.toNat).toNat : Nat) : Int) % 2 ^ w.toNat).toNat : Nat)) : Int)
    rw [bd _ (Nat.or_lt_two_pow na nb), bd _ (Nat.or_lt_two_pow nb nc), Nat.or_assoc]
  · show (((((((a % 2 ^ w.toNat).toNat ^^^ (b % 2 ^ w.toNat).toNat : Nat) : Int) % 2 ^ w.toNat).toNat ^^^ (c % 2 ^ w.toNat).toNat : Nat)) : Int) = ((((a % 2 ^ w.toNat).toNat ^^^ ((((b % 2 ^ w.toNat).toNat ^^^ (c % 2 ^ w.toNat).toNat : Nat) : Int) % 2 ^ w.toNat).toNat : Nat)) : Int)
    rw [bd _ (Nat.xor_lt_two_pow na nb), bd _ (Nat.xor_lt_two_pow nb nc), Nat.xor_assoc]
  · show (((a % 2 ^ w.toNat * (b % 2 ^ w.toNat)) % 2 ^ w.toNat) % 2 ^ w.toNat * (c % 2 ^ w.toNat)) % 2 ^ w.toNat = (a % 2 ^ w.toNat * ((b % 2 ^ w.toNat * (c % 2 ^ w.toNat)) % 2 ^ w.toNat % 2 ^ w.toNat)) % 2 ^ w.toNat
    exact mul3 a b c _
theorem u64w (n : Int) (h0 : 0 ≤ n) (h1 : n < 18446744073709551616) : IntKind.u64.wrap n = n := by
  simp only [IntKind.wrap, IntKind.bits, IntKind.signed]; simp; omega
theorem back_ok (A : Int) (w k : Nat) (hk : k ≤ w) : A * 2 ^ k % 2 ^ w / 2 ^ k = A % 2 ^ (w - k) := by
  obtain ⟨d, rfl⟩ : ∃ d, w = d + k := ⟨w - k, by omega⟩
  have hp := pow_pos2 k
  rw [Nat.add_sub_cancel, Int.pow_add, Int.mul_comm A, Int.mul_comm (2 ^ d), Int.mul_emod_mul_of_pos _ _ hp, Int.mul_ediv_cancel_left _ (by omega)]
theorem tail_ok (k : Nat) (w a b c : Int) (h1 : 1 ≤ w) (h2 : w ≤ 16) (l : List Int) (i : Int) (n : Int) (hn : ¬ i < n) : augurylaw1_WordLaws.l0 (k + 3) w a b c l n i = some true := by
  obtain ⟨a0, a1, hl⟩ := word_bd w a h2
  obtain ⟨n0, n1, _⟩ := word_bd w (Go.bits .and .i64 c 31) h2
  have hp := pow_pos2 w.toNat
  have DO := fun op a b => do_in (k + 1) w op a b h1 h2
  have M := fun n => mask_in w n h1 h2
  rw [augurylaw1_WordLaws.l0, if_neg hn, DO, DO, DO, M]
  simp only [Option.bind_some]
  by_cases hk : Go.bits .and .i64 c 31 % 2 ^ w.toNat ≥ w
  · have e6 : (D w 6 a (Go.bits .and .i64 c 31)).1 = 0 := by
      show (if Go.bits .and .i64 c 31 % 2 ^ w.toNat ≥ w then 0 else _ : Int) = 0
      rw [if_pos hk]
    have e7 : (D w 7 a (Go.bits .and .i64 c 31)).1 = 0 := by
      show (if Go.bits .and .i64 c 31 % 2 ^ w.toNat ≥ w then 0 else _ : Int) = 0
      rw [if_pos hk]
    rw [if_pos hk, e6, if_pos rfl, e7, if_pos rfl, awake_ok]; rfl
  · have e6 : (D w 6 a (Go.bits .and .i64 c 31)).1 = (a % 2 ^ w.toNat * 2 ^ (Go.bits .and .i64 c 31 % 2 ^ w.toNat).toNat) % 2 ^ w.toNat := by
      show (if Go.bits .and .i64 c 31 % 2 ^ w.toNat ≥ w then 0 else _ : Int) = _
      rw [if_neg hk]
    have e7 : ∀ x, (D w 7 x (Go.bits .and .i64 c 31)).1 = x % 2 ^ w.toNat / 2 ^ (Go.bits .and .i64 c 31 % 2 ^ w.toNat).toNat := by
      intro x
      show (if Go.bits .and .i64 c 31 % 2 ^ w.toNat ≥ w then 0 else _ : Int) = _
      rw [if_neg hk]
    have ef : ¬ wrap64 (w + Go.bits .and .i64 c 7) % 2 ^ w.toNat < w → (D w 6 a (wrap64 (w + Go.bits .and .i64 c 7))).1 = 0 := by
      intro h
      show (if wrap64 (w + Go.bits .and .i64 c 7) % 2 ^ w.toNat ≥ w then 0 else _ : Int) = 0
      rw [if_pos (by omega)]
    rw [if_neg hk, DO]
    simp only [Option.bind_some]
    rw [e7, e7, e6]
    clear e6 e7
    generalize Go.bits .and .i64 c 31 % 2 ^ w.toNat = K at *
    have hw : wrap64 (w - K) = w - K := w64 _ (by omega) (by omega)
    have hpk := pow_pos2 (w - K).toNat
    have hlk := pow_le16 (w - K).toNat (by omega)
    have hs1 : shl .i64 1 (w - K) = 2 ^ (w - K).toNat := by
      unfold shl; rw [Int.one_mul, Nat.min_eq_left (by simp only [IntKind.bits]; omega), i64w _ (by omega) (by omega)]
    have hsub : w.toNat - K.toNat = (w - K).toNat := by omega
    have hA : a % 2 ^ w.toNat % 2 ^ (w - K).toNat = a % 2 ^ (w - K).toNat := by
      refine Int.emod_emod_of_dvd _ ?_
      have : (2 : Nat) ^ (w - K).toNat ∣ 2 ^ w.toNat := Nat.pow_dvd_pow 2 (by omega)
      exact_mod_cast this
    have hb : a % 2 ^ w.toNat * 2 ^ K.toNat % 2 ^ w.toNat % 2 ^ w.toNat / 2 ^ K.toNat = Go.bits .and .i64 (a % 2 ^ (w - K).toNat) (wrap64 (2 ^ (w - K).toNat - 1)) := by
      rw [w64 (2 ^ (w - K).toNat - 1) (by omega) (by omega), and_mask _ _ (by omega), Int.emod_emod, Int.emod_emod, back_ok _ _ _ (by omega), hsub, hA]
    have hm := mask_in (w - K) a (by omega) (by omega)
    have hshr : a % 2 ^ w.toNat / 2 ^ K.toNat = shr .i64 (a % 2 ^ w.toNat) K := (shr_in _ K w h2 (by omega)).symm
    rw [hw, hm]
    simp only [Option.bind_some]
    rw [u64w (w - K) (by omega) (by omega), u64w K n0 (by omega), hs1, if_pos (by omega), if_pos hb, M]
    simp only [Option.bind_some]
    rw [if_pos n0, if_pos hshr, M]
    simp only [Option.bind_some]
    by_cases hf : wrap64 (w + Go.bits .and .i64 c 7) % 2 ^ w.toNat < w
    · rw [if_pos hf, awake_ok]; rfl
    · rw [if_neg hf, if_pos (ef hf), awake_ok]; rfl
theorem round_ok (k : Nat) (w a b c op : Int) (i : Nat) (h1 : 1 ≤ w) (h2 : w ≤ 16) (hi : i < 5) (hop : ([1, 3, 4, 5, 8] : List Int).getD i 0 = op) :
    augurylaw1_WordLaws.l0 (k + 2) w a b c [1, 3, 4, 5, 8] 5 i = augurylaw1_WordLaws.l0 (k + 1) w a b c [1, 3, 4, 5, 8] 5 ((i + 1 : Nat) : Int) := by
  have ho : op = 1 ∨ op = 3 ∨ op = 4 ∨ op = 5 ∨ op = 8 := by
    obtain rfl | rfl | rfl | rfl | rfl : i = 0 ∨ i = 1 ∨ i = 2 ∨ i = 3 ∨ i = 4 := by omega
    all_goals (simp at hop; omega)
  have hr : rd [1, 3, 4, 5, 8] (i : Int) = op := by
    unfold rd; rw [Int.toNat_natCast]; exact hop
  have DO := fun a b => do_in k w op a b h1 h2
  have hl : (([1, 3, 4, 5, 8] : List Int).length : Int) = 5 := rfl
  conv => lhs; rw [augurylaw1_WordLaws.l0]
  rw [if_pos (by omega), if_pos (by omega), hl, if_pos (by omega), hr, DO, DO]
  simp only [Option.bind_some]
  rw [DO, DO]
  simp only [Option.bind_some]
  rw [DO]
  simp only [Option.bind_some]
  rw [if_pos (by rw [D_comm w op a b ho]), if_pos (D_assoc w op a b c h2 ho), w64 _ (by omega) (by omega)]
  rfl
theorem WordLaws : augurylaw1_WordLaws.Pure := by
  intro a0 a1 a2 a3 _ _ _ _
  refine ⟨8, ?_⟩
  obtain ⟨h1, h2⟩ := width_ok a0
  unfold augurylaw1_WordLaws.f
  simp only [Option.bind_some]
  generalize wrap64 (Go.bits .and .i64 a0 15 + 1) = w at h1 h2
  have e := fun k i op => round_ok k w a1 a2 a3 op i h1 h2
  have e0 := e 6 0 1 (by decide) rfl
  have e1 := e 5 1 3 (by decide) rfl
  have e2 := e 4 2 4 (by decide) rfl
  have e3 := e 3 3 5 (by decide) rfl
  have e4 := e 2 4 8 (by decide) rfl
  show augurylaw1_WordLaws.l0 8 w a1 a2 a3 [1, 3, 4, 5, 8] 5 ((0 : Nat) : Int) = _
  rw [e0, e1, e2, e3, e4]
  exact tail_ok 0 w a1 a2 a3 h1 h2 _ _ _ (by decide)

end Go.Proofs.Ytogihgkicpbafaa.Pure
