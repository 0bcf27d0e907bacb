/- The word functions' contracts. -/
import Derived.Test.YtogihgkicpbafaaPWordTellsx1
import Derived.Test.YtogihgkicpbafaaAxTab
namespace Go.Proofs.Ytogihgkicpbafaa.Pure
open Go.RowKit Go.Proofs.Ytogihgkicpbafaa.PWordTells Go.Proofs.YtogihgkicpbafaaW.PrintWords Go.Proofs.YtogihgkicpbafaaW.PrintLast Go.Proofs.YtogihgkicpbafaaW.PrintMore

theorem pow_pos2 (w : Nat) : (0 : Int) < 2 ^ w := by
  have h : 0 < 2 ^ w := Nat.two_pow_pos w
  exact_mod_cast h
theorem pow_le16 (w : Nat) (h : w ≤ 16) : (2 : Int) ^ w ≤ 65536 := by
  have h1 : (2 : Nat) ^ w ≤ 2 ^ 16 := Nat.pow_le_pow_right (by decide) h
  have h2 : (2 : Int) ^ w = ((2 ^ w : Nat) : Int) := by simp
  have h3 : (2 : Nat) ^ 16 = 65536 := rfl
  rw [h2]; omega
theorem w64 (n : Int) (h0 : -9223372036854775808 ≤ n) (h1 : n ≤ 9223372036854775807) : wrap64 n = n := by
  unfold wrap64; omega
theorem i64w (n : Int) (h0 : -9223372036854775808 ≤ n) (h1 : n ≤ 9223372036854775807) : IntKind.i64.wrap n = n := by
  rw [IntKind.wrap_i64]; omega
theorem and_mask (a : Int) (w : Nat) (hw : w ≤ 16) : Go.bits .and .i64 a (2 ^ w - 1) = a % 2 ^ w := by
  have hp : (2 : Nat) ^ w ≤ 2 ^ 16 := Nat.pow_le_pow_right (by decide) hw
  have hpos : 0 < 2 ^ w := Nat.two_pow_pos w
  have hm : ((2 : Int) ^ w - 1) = ((2 ^ w - 1 : Nat) : Int) := by
    rw [Int.natCast_sub hpos]; simp
  have h64 : (2 ^ w - 1) % 2 ^ IntKind.i64.bits = 2 ^ w - 1 := Nat.mod_eq_of_lt (by simp only [IntKind.bits]; omega)
  rw [hm]
  simp only [bits, BitVec.toNat_and, BitVec.ofInt_natCast, BitVec.toNat_ofNat, BitVec.toNat_ofInt, h64]
  rw [Nat.and_two_pow_sub_one_eq_mod]
  have hd : ((2 ^ w : Nat) : Int) ∣ ((2 ^ IntKind.i64.bits : Nat) : Int) := by
    exact_mod_cast Nat.pow_dvd_pow 2 (by simp only [IntKind.bits]; omega)
  have hnn : 0 ≤ a % ((2 ^ IntKind.i64.bits : Nat) : Int) := Int.emod_nonneg _ (by simp [IntKind.bits])
  have e : (((a % ((2 ^ IntKind.i64.bits : Nat) : Int)).toNat % 2 ^ w : Nat) : Int) = a % 2 ^ w := by
    rw [Int.natCast_emod, Int.toNat_of_nonneg hnn, Int.emod_emod_of_dvd _ hd]; simp
  rw [e]
  have h0 := Int.emod_nonneg a (Int.ne_of_gt (pow_pos2 w))
  have h1 := Int.emod_lt_of_pos a (pow_pos2 w)
  have h2 := pow_le16 w hw
  exact i64w _ (by omega) (by omega)
theorem and15 (a : Int) : Go.bits .and .i64 a 15 = a % 16 := and_mask a 4 (by decide)
theorem and31 (a : Int) : Go.bits .and .i64 a 31 = a % 32 := and_mask a 5 (by decide)
theorem and7 (a : Int) : Go.bits .and .i64 a 7 = a % 8 := and_mask a 3 (by decide)
theorem and255 (a : Int) : Go.bits .and .i64 a 255 = a % 256 := and_mask a 8 (by decide)
theorem tmod_pos (a s : Int) (h : 0 ≤ a) : Int.tmod a s = a % s := Int.tmod_eq_emod_of_nonneg h

theorem width_ok (a : Int) : 1 ≤ wrap64 (Go.bits .and .i64 a 15 + 1) ∧ wrap64 (Go.bits .and .i64 a 15 + 1) ≤ 16 := by
  rw [and15, w64 _ (by omega) (by omega)]; omega

theorem ok_in (w : Int) (h1 : 1 ≤ w) (h2 : w ≤ 16) : word_Ok.f w = some true := by
  unfold word_Ok.f; rw [if_pos (by omega), decide_eq_true h2]
theorem ok_out (w : Int) (h : w < 1 ∨ 16 < w) : word_Ok.f w = some false := by
  unfold word_Ok.f
  by_cases c : w ≥ 1
  · rw [if_pos c, decide_eq_false (by omega)]
  · rw [if_neg c]
theorem size_in (w : Int) (h1 : 1 ≤ w) (h2 : w ≤ 16) : word_Size.f w = some (2 ^ w.toNat) := by
  have hp := pow_pos2 w.toNat
  have hl := pow_le16 w.toNat (by omega)
  unfold word_Size.f; rw [ok_in w h1 h2]; simp only [Option.bind_some, if_true]; rw [if_pos (by omega)]
  unfold shl; rw [Int.one_mul, Nat.min_eq_left (by simp only [IntKind.bits]; omega), i64w _ (by omega) (by omega)]
theorem size_out (w : Int) (h : w < 1 ∨ 16 < w) : word_Size.f w = some 0 := by
  unfold word_Size.f; rw [ok_out w h]; rfl
theorem mask_in (w n : Int) (h1 : 1 ≤ w) (h2 : w ≤ 16) : word_Mask.f w n = some (n % 2 ^ w.toNat) := by
  have hp := pow_pos2 w.toNat
  have hl := pow_le16 w.toNat (by omega)
  unfold word_Mask.f; rw [ok_in w h1 h2, size_in w h1 h2]; simp only [Option.bind_some, if_true]
  rw [w64 _ (by omega) (by omega), and_mask n w.toNat (by omega)]
theorem mask_out (w n : Int) (h : w < 1 ∨ 16 < w) : word_Mask.f w n = some 0 := by
  unfold word_Mask.f; rw [ok_out w h]; rfl

/-- What an op comes to, in a width that may be. -/
def D (w op a b : Int) : Int × Bool :=
  if op = 1 then ((a % 2 ^ w.toNat + b % 2 ^ w.toNat) % 2 ^ w.toNat, true)
  else if op = 2 then ((a % 2 ^ w.toNat - b % 2 ^ w.toNat) % 2 ^ w.toNat, true)
  else if op = 3 then ((((a % 2 ^ w.toNat).toNat &&& (b % 2 ^ w.toNat).toNat : Nat) : Int), true)
  else if op = 4 then ((((a % 2 ^ w.toNat).toNat ||| (b % 2 ^ w.toNat).toNat : Nat) : Int), true)
  else if op = 5 then ((((a % 2 ^ w.toNat).toNat ^^^ (b % 2 ^ w.toNat).toNat : Nat) : Int), true)
  else if op = 6 then (if b % 2 ^ w.toNat ≥ w then 0 else (a % 2 ^ w.toNat * 2 ^ (b % 2 ^ w.toNat).toNat) % 2 ^ w.toNat, true)
  else if op = 7 then (if b % 2 ^ w.toNat ≥ w then 0 else a % 2 ^ w.toNat / 2 ^ (b % 2 ^ w.toNat).toNat, true)
  else if op = 8 then ((a % 2 ^ w.toNat * (b % 2 ^ w.toNat)) % 2 ^ w.toNat, true)
  else if op = 9 then (if a % 2 ^ w.toNat < b % 2 ^ w.toNat then 1 else 0, true)
  else if op = 10 then (if a % 2 ^ w.toNat = b % 2 ^ w.toNat then 1 else 0, true)
  else (0, false)

theorem bits_xor (a b : Nat) (ha : a < 2 ^ 16) (hb : b < 2 ^ 16) : Go.bits .xor .i64 a b = ((a ^^^ b : Nat) : Int) := by
  have hx : a ^^^ b < 2 ^ 16 := Nat.xor_lt_two_pow ha hb
  have ha' : a % 2 ^ IntKind.i64.bits = a := Nat.mod_eq_of_lt (by simp only [IntKind.bits]; omega)
  have hb' : b % 2 ^ IntKind.i64.bits = b := Nat.mod_eq_of_lt (by simp only [IntKind.bits]; omega)
  simp only [bits, BitVec.ofInt_natCast, BitVec.toNat_xor, BitVec.toNat_ofNat, ha', hb']
  exact i64w _ (by omega) (by omega)
theorem bits_and (a b : Nat) (ha : a < 2 ^ 16) (hb : b < 2 ^ 16) : Go.bits .and .i64 a b = ((a &&& b : Nat) : Int) :=
  (bits_nat .i64 16 (by decide) (fun n h0 h1 => i64w n (by omega) (by omega)) a b ha hb).1
theorem bits_or (a b : Nat) (ha : a < 2 ^ 16) (hb : b < 2 ^ 16) : Go.bits .or .i64 a b = ((a ||| b : Nat) : Int) :=
  (bits_nat .i64 16 (by decide) (fun n h0 h1 => i64w n (by omega) (by omega)) a b ha hb).2

theorem word_bd (w n : Int) (h2 : w ≤ 16) : 0 ≤ n % 2 ^ w.toNat ∧ n % 2 ^ w.toNat < 2 ^ w.toNat ∧ (2 : Int) ^ w.toNat ≤ 65536 := by
  have hp := pow_pos2 w.toNat
  exact ⟨Int.emod_nonneg n (by omega), Int.emod_lt_of_pos n hp, pow_le16 w.toNat (by omega)⟩

theorem shl_in (A B w : Int) (h2 : w ≤ 16) (a0 : 0 ≤ A) (a1 : A < 65536) (b1 : B < w) : shl .i64 A B = A * 2 ^ B.toNat := by
  have hp := pow_pos2 B.toNat
  have hl := pow_le16 B.toNat (by omega)
  have hm : A * 2 ^ B.toNat ≤ 65536 * 65536 := Int.mul_le_mul (by omega) hl (by omega) (by omega)
  have h0 : 0 ≤ A * 2 ^ B.toNat := Int.mul_nonneg a0 (by omega)
  unfold shl; rw [Nat.min_eq_left (by simp only [IntKind.bits]; omega), i64w _ (by omega) (by omega)]
theorem shr_in (A B w : Int) (h2 : w ≤ 16) (b1 : B < w) : shr .i64 A B = A / 2 ^ B.toNat := by
  unfold shr; rw [Nat.min_eq_left (by simp only [IntKind.bits]; omega)]

theorem div_lt (A S : Int) (n : Nat) (a0 : 0 ≤ A) (a1 : A < S) : 0 ≤ A / 2 ^ n ∧ A / 2 ^ n < S := by
  have hp := pow_pos2 n
  have h0 : 0 ≤ A / 2 ^ n := Int.ediv_nonneg a0 (by omega)
  have h1 : A / 2 ^ n ≤ A := Int.ediv_le_self _ a0
  exact ⟨h0, by omega⟩

theorem nat_lt (n : Int) (w : Nat) (h0 : 0 ≤ n) (h1 : n < 2 ^ w) : n.toNat < 2 ^ w := by
  have : (n.toNat : Int) < ((2 ^ w : Nat) : Int) := by rw [Int.toNat_of_nonneg h0]; simpa using h1
  exact_mod_cast this

theorem do_in (k : Nat) (w op a b : Int) (h1 : 1 ≤ w) (h2 : w ≤ 16) : word_Do.f (k + 1) w op a b = some (D w op a b) := by
  obtain ⟨a0, a1, hl⟩ := word_bd w a h2
  obtain ⟨b0, b1, _⟩ := word_bd w b h2
  have hp := pow_pos2 w.toNat
  have na := nat_lt _ _ a0 a1
  have nb := nat_lt _ _ b0 b1
  have hN : 2 ^ w.toNat ≤ 2 ^ 16 := Nat.pow_le_pow_right (by decide) (by omega)
  have hmul : a % 2 ^ w.toNat * (b % 2 ^ w.toNat) ≤ 65536 * 65536 := Int.mul_le_mul (by omega) (by omega) (by omega) (by omega)
  have hmul0 : 0 ≤ a % 2 ^ w.toNat * (b % 2 ^ w.toNat) := Int.mul_nonneg a0 b0
  have bd : ∀ n : Nat, n < 2 ^ w.toNat → ((n : Int)) % 2 ^ w.toNat = n := fun n h =>
    Int.emod_eq_of_lt (by omega) (by exact_mod_cast h)
  have M := fun n => mask_in w n h1 h2
  unfold word_Do.f
  rw [ok_in w h1 h2, M, M]
  simp only [Option.bind_some, if_true]
  generalize hA : a % 2 ^ w.toNat = A at *
  generalize hB : b % 2 ^ w.toNat = B at *
  unfold D
  rw [hA, hB]
  by_cases e1 : op = 1
  · rw [if_pos e1, if_pos e1, M, w64 _ (by omega) (by omega)]; rfl
  rw [if_neg e1, if_neg e1]
  by_cases e2 : op = 2
  · rw [if_pos e2, if_pos e2, M, w64 _ (by omega) (by omega)]; rfl
  rw [if_neg e2, if_neg e2]
  by_cases e3 : op = 3
  · rw [if_pos e3, if_pos e3, M]
    have hb : Go.bits .and .i64 A B = ((A.toNat &&& B.toNat : Nat) : Int) := by
      have := bits_and A.toNat B.toNat (by omega) (by omega)
      rwa [Int.toNat_of_nonneg a0, Int.toNat_of_nonneg b0] at this
    rw [hb, bd _ (Nat.and_lt_two_pow _ nb)]; rfl
  rw [if_neg e3, if_neg e3]
  by_cases e4 : op = 4
  · rw [if_pos e4, if_pos e4, M]
    have hb : Go.bits .or .i64 A B = ((A.toNat ||| B.toNat : Nat) : Int) := by
      have := bits_or A.toNat B.toNat (by omega) (by omega)
      rwa [Int.toNat_of_nonneg a0, Int.toNat_of_nonneg b0] at this
    rw [hb, bd _ (Nat.or_lt_two_pow na nb)]; rfl
  rw [if_neg e4, if_neg e4]
  by_cases e5 : op = 5
  · rw [if_pos e5, if_pos e5, M]
    have hb : Go.bits .xor .i64 A B = ((A.toNat ^^^ B.toNat : Nat) : Int) := by
      have := bits_xor A.toNat B.toNat (by omega) (by omega)
      rwa [Int.toNat_of_nonneg a0, Int.toNat_of_nonneg b0] at this
    rw [hb, bd _ (Nat.xor_lt_two_pow na nb)]; rfl
  rw [if_neg e5, if_neg e5]
  by_cases e6 : op = 6
  · rw [if_pos e6, if_pos e6, e6]
    simp only [word_Do.j0, beq_self_eq_true, if_true]
    unfold word_moved.f
    by_cases c : B ≥ w
    · rw [if_pos c, if_pos c]; simp only [Option.bind_some]; rw [M]; rfl
    · rw [if_neg c, if_neg c, if_pos rfl, if_pos b0, shl_in A B w h2 a0 (by omega) (by omega)]; simp only [Option.bind_some]; rw [M]; rfl
  rw [if_neg e6, if_neg e6]
  simp only [word_Do.j0]
  by_cases e7 : op = 7
  · rw [if_pos e7, if_pos (by rw [e7]; rfl)]
    unfold word_moved.f
    by_cases c : B ≥ w
    · rw [if_pos c, if_pos c]; simp only [Option.bind_some]; rw [M]; rfl
    · obtain ⟨d0, d1⟩ := div_lt A _ B.toNat a0 a1
      rw [if_neg c, if_neg c, if_neg (by omega), if_pos b0, shr_in A B w h2 (by omega)]; simp only [Option.bind_some]; rw [M, Int.emod_eq_of_lt d0 d1]; rfl
  rw [if_neg e7, if_neg (by simpa using e7)]
  by_cases e8 : op = 8
  · rw [if_pos e8, if_pos e8, w64 _ (by omega) (by omega), M]; rfl
  rw [if_neg e8, if_neg e8]
  have hS : (2 : Int) ≤ 2 ^ w.toNat := by
    have : (2 : Nat) ^ 1 ≤ 2 ^ w.toNat := Nat.pow_le_pow_right (by decide) (by omega)
    exact_mod_cast this
  by_cases e9 : op = 9
  · rw [if_pos e9, if_pos e9]
    unfold word_truth.f
    by_cases c : A < B
    · rw [if_pos c, if_pos (by simpa using c)]; simp only [Option.bind_some]; rw [M, Int.emod_eq_of_lt (by omega) (by omega)]; rfl
    · rw [if_neg c, if_neg (by simpa using c)]; simp only [Option.bind_some]; rw [M]; rfl
  rw [if_neg e9, if_neg e9]
  by_cases e10 : op = 10
  · rw [if_pos e10, if_pos e10]
    unfold word_truth.f
    by_cases c : A = B
    · rw [if_pos c, if_pos (by simpa using c)]; simp only [Option.bind_some]; rw [M, Int.emod_eq_of_lt (by omega) (by omega)]; rfl
    · rw [if_neg c, if_neg (by simpa using c)]; simp only [Option.bind_some]; rw [M]; rfl
  rw [if_neg e10, if_neg e10]
theorem do_out (k : Nat) (w op a b : Int) (h : w < 1 ∨ 16 < w) : word_Do.f k w op a b = some (0, false) := by
  unfold word_Do.f; rw [ok_out w h]; rfl
theorem awake_ok (k : Nat) : augurylaw1_awake.f (k + 1) = some true := by
  unfold augurylaw1_awake.f
  rw [do_in k 2 1 3 2 (by decide) (by decide), do_in k 3 6 3 2 (by decide) (by decide), do_in k 16 8 300 300 (by decide) (by decide), do_out (k + 1) 0 1 1 1 (by decide)]
  decide +kernel

theorem D_fits (w op a b : Int) (h1 : 1 ≤ w) (h2 : w ≤ 16) (o1 : 1 ≤ op) (o2 : op ≤ 10) : (D w op a b).2 = true ∧ 0 ≤ (Pure.D w op a b).1 ∧ (Pure.D w op a b).1 < 2 ^ w.toNat := by
  obtain ⟨a0, a1, hl⟩ := word_bd w a h2
  obtain ⟨b0, b1, _⟩ := word_bd w b h2
  have hp := pow_pos2 w.toNat
  have na := nat_lt _ _ a0 a1
  have nb := nat_lt _ _ b0 b1
  have hS : (2 : Int) ≤ 2 ^ w.toNat := by
    have : (2 : Nat) ^ 1 ≤ 2 ^ w.toNat := Nat.pow_le_pow_right (by decide) (by omega)
    exact_mod_cast this
  have em : ∀ n : Int, 0 ≤ n % 2 ^ w.toNat ∧ n % 2 ^ w.toNat < 2 ^ w.toNat := fun n => ⟨Int.emod_nonneg n (by omega), Int.emod_lt_of_pos n hp⟩
  have bd : ∀ n : Nat, n < 2 ^ w.toNat → 0 ≤ (n : Int) ∧ (n : Int) < 2 ^ w.toNat := fun n h => ⟨by omega, by exact_mod_cast h⟩
  obtain ⟨d0, d1⟩ := div_lt (a % 2 ^ w.toNat) _ (b % 2 ^ w.toNat).toNat a0 a1
  unfold D
  obtain rfl | rfl | rfl | rfl | rfl | rfl | rfl | rfl | rfl | rfl : op = 1 ∨ op = 2 ∨ op = 3 ∨ op = 4 ∨ op = 5 ∨ op = 6 ∨ op = 7 ∨ op = 8 ∨ op = 9 ∨ op = 10 := by omega
  · exact ⟨rfl, em _⟩
  · exact ⟨rfl, em _⟩
  · exact ⟨rfl, bd _ (Nat.and_lt_two_pow _ nb)⟩
  · exact ⟨rfl, bd _ (Nat.or_lt_two_pow na nb)⟩
  · exact ⟨rfl, bd _ (Nat.xor_lt_two_pow na nb)⟩
  · refine ⟨rfl, ?_⟩
    show 0 ≤ (if b % 2 ^ w.toNat ≥ w then 0 else _ : Int) ∧ (if b % 2 ^ w.toNat ≥ w then 0 else _ : Int) < _
    by_cases c : b % 2 ^ w.toNat ≥ w
    · rw [if_pos c]; omega
    · rw [if_neg c]; exact em _
  · refine ⟨rfl, ?_⟩
    show 0 ≤ (if b % 2 ^ w.toNat ≥ w then 0 else _ : Int) ∧ (if b % 2 ^ w.toNat ≥ w then 0 else _ : Int) < _
    by_cases c : b % 2 ^ w.toNat ≥ w
    · rw [if_pos c]; omega
    · rw [if_neg c]; exact ⟨d0, d1⟩
  · exact ⟨rfl, em _⟩
  · refine ⟨rfl, ?_⟩
    show 0 ≤ (if a % 2 ^ w.toNat < b % 2 ^ w.toNat then 1 else 0 : Int) ∧ (if a % 2 ^ w.toNat < b % 2 ^ w.toNat then 1 else 0 : Int) < _
    split <;> omega
  · refine ⟨rfl, ?_⟩
    show 0 ≤ (if a % 2 ^ w.toNat = b % 2 ^ w.toNat then 1 else 0 : Int) ∧ (if a % 2 ^ w.toNat = b % 2 ^ w.toNat then 1 else 0 : Int) < _
    split <;> omega
theorem D_same (w op a b a' b' : Int) (ha : a' % 2 ^ w.toNat = a % 2 ^ w.toNat) (hb : b' % 2 ^ w.toNat = b % 2 ^ w.toNat) : D w op a' b' = D w op a b := by
  unfold D; rw [ha, hb]

end Go.Proofs.Ytogihgkicpbafaa.Pure
namespace Go.Proofs.Ytogihgkicpbafaa.Ax
open Go.RowKit Go.Proofs.Ytogihgkicpbafaa.PWordTells Go.Proofs.Ytogihgkicpbafaa.Pure Go.Proofs.YtogihgkicpbafaaW.PrintWords Go.Proofs.YtogihgkicpbafaaW.PrintLast
set_option linter.unusedVariables false
theorem ints_of {ok : Nat → Prop} {w : World} : ∀ {xs : List Int} {vals : List Value}, RAs ok w (xs.map fun n => A.c (.int .i64 n)) vals → vals = xs.map fun n => Value.int .i64 n
  | [], [], _ => rfl
  | [], _ :: _, h => h.elim
  | _ :: _, [], h => h.elim
  | x :: xs, v :: vs, h => by
    obtain ⟨h1, h2⟩ := h
    simp only [RA, RD] at h1
    rw [List.map_cons, h1, ints_of h2]
theorem acalls_pure {f : FuncId} {xs : List Int} {r : RR} {v : Value} (hr : ∀ (ok : Nat → Prop) w, RRv ok w r v [])
    (h : ∀ w : World, Calls Try.prog f (xs.map fun n => Value.int .i64 n).toArray w fun e w' => e = .returned v ∧ Drawn0 w w') : ACalls Try.prog f (xs.map fun n => A.c (.int .i64 n)) r := by
  intro w vals ok hok hargs
  rw [ints_of hargs]
  refine (h w).mono fun e w' h => ?_
  obtain ⟨rfl, hd⟩ := h
  have hb := hd.below
  exact ⟨v, ok, [], rfl, hb, fun b h => Nat.lt_of_lt_of_le (hok b h) hb.size, fun b h => .inl h, hr _ _, List.nodup_nil, fun b h => by cases h⟩
def pre14 (xs : List A) : Prop := ∃ w : Int, xs = [.c (.int .i64 w)] ∧ 1 ≤ w ∧ w ≤ 16
def ans14 (xs : List A) : RR := match xs with
  | [.c (.int _ w)] => .c (.d (.int .i64 (2 ^ w.toNat)))
  | _ => .c .nil
def e14 : FE := ⟨14, pre14, ans14, false⟩
theorem e14_good : e14.Good Try.prog := by
  rintro xs ⟨w, rfl, h1, h2⟩
  exact ⟨acalls_pure (xs := [w]) (v := .int .i64 (2 ^ w.toNat)) (fun ok W => ⟨rfl, by simp only [RD]⟩) fun W => word_Size.calls w _ W (size_in w h1 h2), ⟨Try.f14, by kernel_rfl, by decide +kernel, by kernel_rfl⟩, rfl⟩
def pre12 (xs : List A) : Prop := ∃ w n : Int, xs = [.c (.int .i64 w), .c (.int .i64 n)] ∧ 1 ≤ w ∧ w ≤ 16
def ans12 (xs : List A) : RR := match xs with
  | [.c (.int _ w), .c (.int _ n)] => .c (.d (.int .i64 (n % 2 ^ w.toNat)))
  | _ => .c .nil
def e12 : FE := ⟨12, pre12, ans12, false⟩
theorem e12_good : e12.Good Try.prog := by
  rintro xs ⟨w, n, rfl, h1, h2⟩
  exact ⟨acalls_pure (xs := [w, n]) (v := .int .i64 (n % 2 ^ w.toNat)) (fun ok W => ⟨rfl, by simp only [RD]⟩) fun W => word_Mask.calls w n _ W (mask_in w n h1 h2), ⟨Try.f12, by kernel_rfl, by decide +kernel, by kernel_rfl⟩, rfl⟩
def pre11 (xs : List A) : Prop := ∃ w op a b : Int, xs = [.c (.int .i64 w), .c (.int .i64 op), .c (.int .i64 a), .c (.int .i64 b)] ∧ 1 ≤ w ∧ w ≤ 16
def ans11 (xs : List A) : RR := match xs with
  | [.c (.int _ w), .c (.int _ op), .c (.int _ a), .c (.int _ b)] => .tup [.inl (.d (.int .i64 (Pure.D w op a b).1)), .inl (.d (.bool (Pure.D w op a b).2))]
  | _ => .c .nil
def e11 : FE := ⟨11, pre11, ans11, false⟩
theorem e11_good : e11.Good Try.prog := by
  rintro xs ⟨w, op, a, b, rfl, h1, h2⟩
  refine ⟨acalls_pure (xs := [w, op, a, b]) (v := .tuple #[.int .i64 (Pure.D w op a b).1, .bool (Pure.D w op a b).2]) (fun ok W => ?_) fun W => word_Do.calls 1 w op a b _ _ W (do_in 0 w op a b h1 h2), ⟨Try.f11, by kernel_rfl, by decide +kernel, by kernel_rfl⟩, rfl⟩
  exact ⟨[.int .i64 (Pure.D w op a b).1, .bool (Pure.D w op a b).2], rfl, [], [], rfl, ⟨rfl, by simp only [RD]⟩, [], [], rfl, ⟨rfl, by simp only [RD]⟩, rfl⟩
def e13 : FE := ⟨13, fun xs => xs = [], fun _ => .c (.d (.bool true)), false⟩
theorem e13_good : e13.Good Try.prog := by
  rintro xs rfl
  exact ⟨acalls_pure (xs := []) (v := .bool true) (fun ok W => ⟨rfl, by simp only [RD]⟩) fun W => augurylaw1_awake.calls 1 _ W (awake_ok 0), ⟨Try.f13, by kernel_rfl, by decide +kernel, by kernel_rfl⟩, rfl⟩
def sp8 : Sp := spT [e11, e12, e13, e14]
theorem sp8_sound : sp8.sound Try.prog := spT_sound fun e he => by
  simp only [List.mem_cons, List.not_mem_nil, or_false] at he
  rcases he with rfl | rfl | rfl | rfl
  · exact e11_good
  · exact e12_good
  · exact e13_good
  · exact e14_good
noncomputable def fa8 : FnA := (fnA Try.prog Try.f8 4 []).getD ⟨0, .skip, [], []⟩
end Go.Proofs.Ytogihgkicpbafaa.Ax
