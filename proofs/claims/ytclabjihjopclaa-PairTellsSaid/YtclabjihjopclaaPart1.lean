/- Several texts in one, in their order. -/
import Derived.Test.YtclabjihjopclaaPart0
import Derived.Test.YtclabjihjopclaaAx22
import Derived.Test.YtclabjihjopclaaAx24
section
/- Clones; and what computing may take from outside. -/
namespace Go.Proofs.Ytclabjihjopclaa.Ax
open Go.RowKit
set_option linter.unusedVariables false
set_option linter.unusedSimpArgs false
/-- A list alone: beside (), so that it is not taken apart where the trees are printed. -/
def rdL {α : Type} [Row α] : List A → List α × Unit
  | [.c (.sl r)] => (listOf α r, ())
  | _ => ([], ())
theorem clone_int {rows : List (List D)} (h1 : (rows.all fun r => r.length == 1) = true) (h2 : rows.length ≤ 1000000000) : ACalls Try.prog 127 [.c (.sl rows)] (.c (.new 1 rows)) :=
  clone_calls (f := 127) (fn := Try.f127) (t := 22) (u := 3) (bytes := 8) (z := [.d (.int .i64 0)]) (by kernel_rfl) rfl rfl (by kernel_rfl) (by kernel_rfl) (by kernel_rfl) (by kernel_rfl) rfl rfl rfl (by kernel_rfl) (by kernel_rfl) (fun _ => rfl) h1 (by omega)
theorem clone_ent {rows : List (List D)} (h1 : (rows.all fun r => r.length == 8) = true) (h2 : rows.length ≤ 1000000000) : ACalls Try.prog 122 [.c (.sl rows)] (.c (.new 8 rows)) :=
  clone_calls (f := 122) (fn := Try.f122) (t := 34) (u := 43) (bytes := 48) (z := [.d (.int .i64 0), .d (.int .i64 0), .d (.int .i64 0), .d (.int .i64 0), .d (.int .i64 0), .d (.bool false), .d (.bool false), .d (.bool false)]) (by kernel_rfl) rfl rfl (by kernel_rfl) (by kernel_rfl) (by kernel_rfl) (by kernel_rfl) rfl rfl rfl (by kernel_rfl) (by kernel_rfl) (fun _ => rfl) h1 (by omega)
def rnewI (l : List Int) : RR := .c (.new 1 (rowsOn l))
def rnewE (l : List Ent) : RR := .c (.new 8 (rowsOn l))
def c_cloneI : FT (List Int × Unit) := ⟨127, fun l => [al l.1], rdL, fun l => l.1.length ≤ 1000000000, fun l => rnewI l.1, false, fun l => by simp [al, rdL]⟩
theorem c_cloneI_good : c_cloneI.fe.Good Try.prog := by
  refine FT.good c_cloneI ⟨Try.f127, by kernel_rfl, by decide +kernel, by kernel_rfl⟩ (fun l => by simp [c_cloneI, rnewI, rrRef]) fun l hl => clone_int (rowsOn_all _ _ rfl) (by rw [rowsOn_length]; exact hl)
def c_cloneE : FT (List Ent × Unit) := ⟨122, fun l => [.c (.sl (rowsOn l.1))], rdL, fun l => l.1.length ≤ 1000000000, fun l => rnewE l.1, false, fun l => by simp [rdL]⟩
theorem c_cloneE_good : c_cloneE.fe.Good Try.prog := by
  refine FT.good c_cloneE ⟨Try.f122, by kernel_rfl, by decide +kernel, by kernel_rfl⟩ (fun l => by simp [c_cloneE, rnewE, rrRef]) fun l hl => clone_ent (rowsOn_all _ _ rfl) (by rw [rowsOn_length]; exact hl)
def extE (f : FuncId) (xs : List A) : Option RR := match f, xs with
  | 127, [.c (.sl rows)] => if (rows.all fun r => r.length == 1) = true ∧ rows.length ≤ 1000000000 then some (.c (.new 1 rows)) else none
  | 122, [.c (.sl rows)] => if (rows.all fun r => r.length == 8) = true ∧ rows.length ≤ 1000000000 then some (.c (.new 8 rows)) else none
  | _, _ => none
theorem extE_sound : ∀ g xs r, extE g xs = some r → ACalls Try.prog g xs r ∧ Enters Try.prog g := by
  intro g xs r h
  unfold extE at h
  split at h
  · split at h
    · rename_i hc
      simp only [Option.some.injEq] at h; subst h
      exact ⟨clone_int hc.1 hc.2, ⟨Try.f127, by kernel_rfl, by decide +kernel, by kernel_rfl⟩⟩
    · cases h
  · split at h
    · rename_i hc
      simp only [Option.some.injEq] at h; subst h
      exact ⟨clone_ent hc.1 hc.2, ⟨Try.f122, by kernel_rfl, by decide +kernel, by kernel_rfl⟩⟩
    · cases h
  · cases h
def rd0 : List A → Unit := fun _ => ()
theorem awake7 : ACalls Try.prog 41 [] (.c (.d (.bool true))) ∧ Enters Try.prog 41 :=
  axN_sound extE_sound (n := 60) 8 (by kernel_rfl)
def c_awake7 : FT Unit := ⟨41, fun _ => [], rd0, fun _ => True, fun _ => rb true, false, fun _ => rfl⟩
theorem c_awake7_good : c_awake7.fe.Good Try.prog := FT.good c_awake7 awake7.2 (fun _ => rfl) fun _ _ => awake7.1
end Go.Proofs.Ytclabjihjopclaa.Ax
end

section
/- Plain laws: pairs of states by their numbers. -/
namespace Go.Proofs.Ytclabjihjopclaa.Ax
open Go.RowKit
set_option linter.unusedVariables false
set_option linter.unusedSimpArgs false
def farS : Int := 1073741824
def powS (p : Prg) (n : Nat) : Int := min (sizeS p.w ^ n) farS
def twoS (n : Int) : Int := min (n * (n - 1) / 2) farS
def idxW (b : Bool) : List Place → Int → List Int
  | [], _ => []
  | x :: l, i => if x.secret = b then i :: idxW b l (i + 1) else idxW b l (i + 1)
def openS (p : Prg) : List Int := idxW false (placesS p) 0
def secS (p : Prg) : List Int := idxW true (placesS p) 0
def cntS (p : Prg) : Int := min (powS p (openS p).length * twoS (powS p (secS p).length)) farS
def countS (p : Prg) (most : Int) : Int × Bool := if min (max most 0) 1000000 < cntS p then (0, false) else (cntS p, true)
def oneF (all : Int) : Nat → Int → Int → Int × Int
  | 0, one, rest => (one, rest)
  | m + 1, one, rest => if all - 1 - one ≤ rest then oneF all m (one + 1) (rest - (all - 1 - one)) else (one, rest)
def oneS (all rest : Int) : Int × Int := oneF all rest.toNat 0 rest
def fillK (s : Int) (pl : List Int) : Nat → List Int → Int → List Int
  | 0, l, _ => l
  | k + 1, l, n => fillK s pl k (l.set (rd pl (k : Int)).toNat (n % s)) (n / s)
def fillP (s : Int) (pl l : List Int) (n : Int) : List Int := fillK s pl pl.length l n
def rowP (p : Prg) (u o : Int) : List Int := fillP (sizeS p.w) (secS p) (fillP (sizeS p.w) (openS p) (List.replicate ((openS p).length + (secS p).length) 0) u) o
def atP (p : Prg) (i : Int) : Sta × Sta × Bool :=
  if i < 0 ∨ 1000000 ≤ i ∨ twoS (powS p (secS p).length) = 0 ∨ powS p (openS p).length ≤ i / twoS (powS p (secS p).length) then (zeroSta 0, zeroSta 0, false)
  else ((startS p (rowP p (i / twoS (powS p (secS p).length)) (oneS (powS p (secS p).length) (i % twoS (powS p (secS p).length))).1)).1,
    (startS p (rowP p (i / twoS (powS p (secS p).length)) ((oneS (powS p (secS p).length) (i % twoS (powS p (secS p).length))).1 + 1 + (oneS (powS p (secS p).length) (i % twoS (powS p (secS p).length))).2))).1, true)

theorem idxW_mem (b : Bool) : ∀ (l : List Place) (i j : Int), j ∈ idxW b l i ↔ ∃ k : Nat, ∃ h : k < l.length, j = i + k ∧ l[k].secret = b
  | [], i, j => by simp [idxW]
  | x :: l, i, j => by
    have ih := idxW_mem b l (i + 1) j
    unfold idxW
    by_cases hx : x.secret = b
    · rw [if_pos hx, List.mem_cons, ih]
      constructor
      · rintro (rfl | ⟨k, h, rfl, h2⟩)
        · exact ⟨0, by simp, by simp, hx⟩
        · exact ⟨k + 1, by simpa using h, by omega, h2⟩
      · rintro ⟨k, h, rfl, h2⟩
        cases k with
        | zero => exact .inl (by simp)
        | succ k => exact .inr ⟨k, by simpa using h, by omega, h2⟩
    · rw [if_neg hx, ih]
      constructor
      · rintro ⟨k, h, rfl, h2⟩
        exact ⟨k + 1, by simpa using h, by omega, h2⟩
      · rintro ⟨k, h, rfl, h2⟩
        cases k with
        | zero => exact absurd h2 hx
        | succ k => exact ⟨k, by simpa using h, by omega, h2⟩
theorem idxW_sorted (b : Bool) : ∀ (l : List Place) (i : Int), (idxW b l i).Pairwise (· < ·)
  | [], i => by simp [idxW]
  | x :: l, i => by
    have ih := idxW_sorted b l (i + 1)
    unfold idxW
    split
    · refine List.Pairwise.cons (fun j hj => ?_) ih
      obtain ⟨k, h, rfl, _⟩ := (idxW_mem b l (i + 1) j).1 hj
      omega
    · exact ih
theorem idxW_len : ∀ (l : List Place) (i : Int), (idxW false l i).length + (idxW true l i).length = l.length
  | [], i => rfl
  | x :: l, i => by
    have ih := idxW_len l (i + 1)
    unfold idxW
    cases hx : x.secret <;> simp <;> omega
theorem idxW_app (b : Bool) : ∀ (l m : List Place) (i : Int), idxW b (l ++ m) i = idxW b l i ++ idxW b m (i + l.length)
  | [], m, i => by simp [idxW]
  | x :: l, m, i => by
    have ih := idxW_app b l m (i + 1)
    have e : i + 1 + (l.length : Int) = i + ((x :: l).length : Int) := by simp; omega
    show (if x.secret = b then i :: idxW b (l ++ m) (i + 1) else idxW b (l ++ m) (i + 1)) = (if x.secret = b then i :: idxW b l (i + 1) else idxW b l (i + 1)) ++ idxW b m _
    rw [ih, e]
    split <;> rfl
/-- As the places go by, the rows of those that are open, or secret. -/
theorem idxW_take (b : Bool) (l : List Place) (k : Nat) (h : k < l.length) : idxW b (l.take (k + 1)) 0 = idxW b (l.take k) 0 ++ (if l[k].secret = b then [(k : Int)] else []) := by
  have e : (List.take k l).length = k := by simp; omega
  rw [List.take_succ_eq_append_getElem h, idxW_app, e]
  simp only [idxW]
  split <;> simp
theorem fillK_len (s : Int) (pl : List Int) : ∀ (k : Nat) (l : List Int) (n : Int), (fillK s pl k l n).length = l.length
  | 0, l, n => rfl
  | k + 1, l, n => by unfold fillK; rw [fillK_len s pl k]; simp
theorem fillP_len (s : Int) (pl l : List Int) (n : Int) : (fillP s pl l n).length = l.length := fillK_len _ _ _ _ _
theorem rowP_len (p : Prg) (u o : Int) : (rowP p u o).length = (placesS p).length := by
  unfold rowP
  rw [fillP_len, fillP_len, List.length_replicate]
  exact idxW_len _ _
theorem getD_set_int (l : List Int) (i j : Nat) (v : Int) : (l.set i v).getD j 0 = if i = j ∧ j < l.length then v else l.getD j 0 := by
  simp only [List.getD_eq_getElem?_getD, List.getElem?_set]
  by_cases h : i = j
  · subst h
    by_cases h2 : i < l.length
    · simp [h2]
    · simp [h2, List.getElem?_eq_none (Nat.le_of_not_lt h2)]
  · simp [h]
/-- What is filled at its own places are the digits; what is not named stays. -/
theorem fillK_other (s : Int) (pl : List Int) (j : Nat) : ∀ (k : Nat) (l : List Int) (n : Int), (∀ i : Nat, i < k → (rd pl (i : Int)).toNat ≠ j) → (fillK s pl k l n).getD j 0 = l.getD j 0
  | 0, l, n, _ => rfl
  | k + 1, l, n, h => by
    unfold fillK
    rw [fillK_other s pl j k _ _ fun i hi => h i (by omega), getD_set_int, if_neg (fun e => h k (by omega) e.1)]
theorem ediv_pow (n s : Int) (hs : 0 < s) (a : Nat) : n / s / s ^ a = n / s ^ (a + 1) := by
  rw [Int.ediv_ediv_of_nonneg (by omega), Int.pow_succ, Int.mul_comm]
theorem fillK_own (s : Int) (hs : 0 < s) (pl : List Int) (len : Nat) (hb : ∀ i : Nat, i < pl.length → 0 ≤ rd pl (i : Int) ∧ rd pl (i : Int) < len) (hd : ∀ i j : Nat, i < j → j < pl.length → rd pl (i : Int) < rd pl (j : Int)) : ∀ (k : Nat) (l : List Int) (n : Int), k ≤ pl.length → l.length = len → ∀ j : Nat, j < k → (fillK s pl k l n).getD (rd pl (j : Int)).toNat 0 = n / s ^ (k - 1 - j) % s
  | 0, l, n, _, _, j, hj => by omega
  | k + 1, l, n, hk, hl, j, hj => by
    unfold fillK
    by_cases e : j = k
    · subst e
      have b1 := hb j (by omega)
      rw [fillK_other s pl _ j _ _ fun i hi he => by have := hd i j hi (by omega); have := hb i (by omega); omega]
      rw [getD_set_int, if_pos ⟨rfl, by omega⟩]
      simp
    · rw [fillK_own s hs pl len hb hd k _ _ (by omega) (by simpa using hl) j (by omega)]
      rw [ediv_pow n s hs, show k - 1 - j + 1 = k + 1 - 1 - j by omega]
theorem rd_getD (l : List Int) (i : Nat) : rd l (i : Int) = l.getD i 0 := by
  unfold rd
  rw [Int.toNat_natCast]; rfl
theorem sorted_rd {l : List Int} (h : l.Pairwise (· < ·)) : ∀ i j : Nat, i < j → j < l.length → rd l (i : Int) < rd l (j : Int) := fun i j hij hj => by
  rw [rd_getD, rd_getD, List.getD_eq_getElem?_getD, List.getD_eq_getElem?_getD, List.getElem?_eq_getElem (by omega), List.getElem?_eq_getElem hj]
  exact (List.pairwise_iff_getElem.1 h) i j (by omega) hj hij
theorem rd_memN {l : List Int} {i : Nat} (h : i < l.length) : rd l (i : Int) ∈ l := by
  rw [rd_getD, List.getD_eq_getElem?_getD, List.getElem?_eq_getElem h]
  exact List.getElem_mem h
theorem idxW_rd (b : Bool) (l : List Place) {k : Nat} (h : k < (idxW b l 0).length) : ∃ j : Nat, ∃ hj : j < l.length, rd (idxW b l 0) (k : Int) = j ∧ l[j].secret = b := by
  obtain ⟨j, hj, e, hs⟩ := (idxW_mem b l 0 _).1 (rd_memN h)
  exact ⟨j, hj, by omega, hs⟩
/-- The digits of a number, the first one the greatest. -/
def digP (s : Int) (m : Nat) (n : Int) : List Int := (List.range m).map fun k => n / s ^ (m - 1 - k) % s
theorem digP_len (s : Int) (m : Nat) (n : Int) : (digP s m n).length = m := by simp [digP]
theorem digP_get (s : Int) (m : Nat) (n : Int) (k : Nat) (h : k < m) : (digP s m n).getD k 0 = n / s ^ (m - 1 - k) % s := by
  simp [digP, List.getD_eq_getElem?_getD, h]
theorem rowP_open (p : Prg) (hs : 0 < sizeS p.w) (u o : Int) (k : Nat) (hk : k < (openS p).length) : (rowP p u o).getD (rd (openS p) (k : Int)).toNat 0 = u / sizeS p.w ^ ((openS p).length - 1 - k) % sizeS p.w := by
  obtain ⟨j, hj, e, hsec⟩ := idxW_rd false (placesS p) hk
  have hl := idxW_len (placesS p) 0
  unfold rowP
  unfold fillP
  rw [fillK_other _ _ _ _ _ _ fun i hi he => ?_]
  · refine fillK_own _ hs _ ((openS p).length + (secS p).length) (fun i hi => ?_) (sorted_rd (idxW_sorted _ _ _)) _ _ _ (Nat.le_refl _) (by simp) k hk
    obtain ⟨j2, hj2, e2, _⟩ := idxW_rd false (placesS p) hi
    show 0 ≤ rd (idxW false (placesS p) 0) i ∧ rd (idxW false (placesS p) 0) i < _
    unfold openS secS
    omega
  · obtain ⟨j2, hj2, e2, h2⟩ := idxW_rd true (placesS p) hi
    have : j2 = j := by
      change (rd (idxW true (placesS p) 0) i).toNat = (rd (idxW false (placesS p) 0) k).toNat at he
      omega
    subst this
    rw [hsec] at h2; cases h2
theorem rowP_sec (p : Prg) (hs : 0 < sizeS p.w) (u o : Int) (k : Nat) (hk : k < (secS p).length) : (rowP p u o).getD (rd (secS p) (k : Int)).toNat 0 = o / sizeS p.w ^ ((secS p).length - 1 - k) % sizeS p.w := by
  have hl := idxW_len (placesS p) 0
  unfold rowP
  refine fillK_own _ hs _ ((openS p).length + (secS p).length) (fun i hi => ?_) (sorted_rd (idxW_sorted _ _ _)) _ _ _ (Nat.le_refl _) (by rw [fillP_len]; simp) k hk
  obtain ⟨j2, hj2, e2, _⟩ := idxW_rd true (placesS p) hi
  show 0 ≤ rd (idxW true (placesS p) 0) i ∧ rd (idxW true (placesS p) 0) i < _
  unfold openS secS
  omega
/-- The first place where two rows differ. -/
def lessL : List Int → List Int → Bool
  | x :: a, y :: b => if x = y then lessL a b else decide (x < y)
  | _, _ => false
theorem lessL_app : ∀ (a b c d : List Int), a.length = b.length → lessL (a ++ c) (b ++ d) = if a = b then lessL c d else lessL a b
  | [], [], c, d, _ => by simp
  | x :: a, y :: b, c, d, h => by
    have ih := lessL_app a b c d (by simpa using h)
    simp only [List.cons_append, lessL]
    by_cases hx : x = y
    · subst hx; simp only [if_true, ih, List.cons.injEq, true_and]
    · simp [hx]
theorem digP_succ (s : Int) (m : Nat) (n : Int) : digP s (m + 1) n = n / s ^ m % s :: digP s m n := by
  unfold digP
  rw [List.range_succ_eq_map, List.map_cons, List.map_map]
  congr 1
  refine List.map_congr_left fun k hk => ?_
  have : k < m := by simpa using hk
  show n / s ^ (m + 1 - 1 - (k + 1)) % s = _
  rw [show m + 1 - 1 - (k + 1) = m - 1 - k by omega]
theorem mod_pow_succ (s n : Int) (hs : 0 < s) (m : Nat) : n % s ^ (m + 1) = n / s ^ m % s * s ^ m + n % s ^ m := by
  have hp : 0 < s ^ m := Int.pow_pos hs
  have h1 := Int.mul_ediv_add_emod n (s ^ m)
  have h2 := Int.mul_ediv_add_emod (n / s ^ m) s
  have b1 := Int.emod_nonneg n (Int.ne_of_gt hp)
  have b2 := Int.emod_lt_of_pos n hp
  have b3 := Int.emod_nonneg (n / s ^ m) (Int.ne_of_gt hs)
  have b4 := Int.emod_lt_of_pos (n / s ^ m) hs
  generalize n % s ^ m = r at *
  generalize n / s ^ m = q at *
  generalize q % s = d at *
  generalize q / s = e at *
  have e1 : n = (d * s ^ m + r) + s ^ (m + 1) * e := by
    rw [← h1, ← h2, Int.pow_succ]
    rw [Int.mul_add, Int.mul_comm d, Int.mul_assoc]
    omega
  rw [e1, Int.add_mul_emod_self_left]
  refine Int.emod_eq_of_lt (Int.add_nonneg (Int.mul_nonneg b3 (Int.le_of_lt hp)) b1) ?_
  have : (d + 1) * s ^ m ≤ s * s ^ m := Int.mul_le_mul_of_nonneg_right (by omega) (Int.le_of_lt hp)
  rw [Int.add_mul, Int.one_mul] at this
  rw [Int.pow_succ, Int.mul_comm (s ^ m) s]
  omega
theorem lessL_dig (s : Int) (hs : 0 < s) : ∀ (m : Nat) (u v : Int), lessL (digP s m u) (digP s m v) = decide (u % s ^ m < v % s ^ m) ∧ (digP s m u = digP s m v ↔ u % s ^ m = v % s ^ m)
  | 0, u, v => by simp [digP, lessL]
  | m + 1, u, v => by
    obtain ⟨ih1, ih2⟩ := lessL_dig s hs m u v
    rw [digP_succ, digP_succ, mod_pow_succ s u hs, mod_pow_succ s v hs]
    have hp : 0 < s ^ m := Int.pow_pos hs
    have b1 := Int.emod_nonneg u (Int.ne_of_gt hp)
    have b2 := Int.emod_lt_of_pos u hp
    have b3 := Int.emod_nonneg v (Int.ne_of_gt hp)
    have b4 := Int.emod_lt_of_pos v hp
    simp only [lessL, List.cons.injEq, ih1, ih2]
    generalize u % s ^ m = x at *
    generalize v % s ^ m = y at *
    generalize u / s ^ m % s = a at *
    generalize v / s ^ m % s = b at *
    generalize s ^ m = w at *
    by_cases hab : a = b
    · subst hab
      simp
    · rw [if_neg hab]
      rcases Int.lt_or_gt_of_ne hab with h | h
      · have : (a + 1) * w ≤ b * w := Int.mul_le_mul_of_nonneg_right (by omega) (by omega)
        rw [Int.add_mul, Int.one_mul] at this
        constructor
        · exact decide_eq_decide.2 ⟨fun _ => by omega, fun _ => h⟩
        · exact ⟨fun q => absurd q.1 hab, fun q => by omega⟩
      · have : (b + 1) * w ≤ a * w := Int.mul_le_mul_of_nonneg_right (by omega) (by omega)
        rw [Int.add_mul, Int.one_mul] at this
        constructor
        · exact decide_eq_decide.2 ⟨fun _ => by omega, fun _ => by omega⟩
        · exact ⟨fun q => absurd q.1 hab, fun q => by omega⟩
/-! ### The first of a pair, and what is left -/
theorem tri (x : Int) : (x - 1) * (x - 1 - 1) = x * (x - 1) - 2 * (x - 1) := by
  simp only [Int.sub_mul, Int.mul_sub, Int.one_mul, Int.mul_one]; omega
theorem tri_mono {x y : Int} (h1 : 1 ≤ x) (h : x ≤ y) : x * (x - 1) ≤ y * (y - 1) :=
  Int.mul_le_mul h (by omega) (by omega) (by omega)
theorem oneF_spec (all : Int) : ∀ (m : Nat) (one rest : Int), 0 ≤ rest → rest ≤ m → one < all → 2 * rest < (all - one) * (all - one - 1) →
    one ≤ (oneF all m one rest).1 ∧ (oneF all m one rest).1 < all ∧ 0 ≤ (oneF all m one rest).2 ∧ (oneF all m one rest).2 < all - 1 - (oneF all m one rest).1 ∧
    2 * (oneF all m one rest).2 = 2 * rest - (all - one) * (all - one - 1) + (all - (oneF all m one rest).1) * (all - (oneF all m one rest).1 - 1)
  | 0, one, rest, h0, h1, h2, h3 => by
    have hr : rest = 0 := by omega
    subst hr
    show one ≤ one ∧ one < all ∧ (0 : Int) ≤ 0 ∧ (0 : Int) < all - 1 - one ∧ _
    have hx : all - one - 1 ≠ 0 := fun e => by rw [e, Int.mul_zero] at h3; omega
    refine ⟨by omega, by omega, by omega, by omega, ?_⟩
    show 2 * 0 = 2 * 0 - (all - one) * (all - one - 1) + (all - one) * (all - one - 1)
    omega
  | m + 1, one, rest, h0, h1, h2, h3 => by
    have hx : all - one - 1 ≠ 0 := fun e => by rw [e, Int.mul_zero] at h3; omega
    unfold oneF
    by_cases h : all - 1 - one ≤ rest
    · rw [if_pos h]
      have ht := tri (all - one)
      have e1 : all - (one + 1) = all - one - 1 := by omega
      have h4 : 2 * (rest - (all - 1 - one)) < (all - (one + 1)) * (all - (one + 1) - 1) := by rw [e1]; omega
      have ih := oneF_spec all m (one + 1) (rest - (all - 1 - one)) (by omega) (by omega) (by omega) h4
      rw [e1] at ih
      generalize oneF all m (one + 1) (rest - (all - 1 - one)) = r at ih ⊢
      obtain ⟨i1, i2, i3, i4, i5⟩ := ih
      exact ⟨by omega, i2, i3, i4, by omega⟩
    · rw [if_neg h]
      refine ⟨by dsimp only; omega, h2, h0, by dsimp only; omega, ?_⟩
      show 2 * rest = 2 * rest - (all - one) * (all - one - 1) + (all - one) * (all - one - 1)
      omega
theorem oneS_spec {all rest : Int} (h0 : 0 ≤ rest) (ha : 0 < all) (h : 2 * rest < all * (all - 1)) :
    0 ≤ (oneS all rest).1 ∧ (oneS all rest).1 < all ∧ 0 ≤ (oneS all rest).2 ∧ (oneS all rest).2 < all - 1 - (oneS all rest).1 ∧ 2 * (oneS all rest).2 = 2 * rest - all * (all - 1) + (all - (oneS all rest).1) * (all - (oneS all rest).1 - 1) := by
  have := oneF_spec all rest.toNat 0 rest h0 (by omega) ha (by rw [Int.sub_zero]; exact h)
  rw [Int.sub_zero] at this
  exact this
theorem oneS_mono {all a b : Int} (h0 : 0 ≤ a) (ha : 0 < all) (hab : a < b) (h : 2 * b < all * (all - 1)) :
    (oneS all a).1 < (oneS all b).1 ∨ (oneS all a).1 = (oneS all b).1 ∧ (oneS all a).2 < (oneS all b).2 := by
  obtain ⟨a1, a2, a3, a4, a5⟩ := oneS_spec h0 ha (by omega)
  obtain ⟨b1, b2, b3, b4, b5⟩ := oneS_spec (by omega : 0 ≤ b) ha h
  generalize oneS all a = x at *
  generalize oneS all b = y at *
  by_cases hlt : x.1 < y.1
  · exact .inl hlt
  · by_cases he : x.1 = y.1
    · rw [he] at a5; exact .inr ⟨he, by omega⟩
    · have ht := tri (all - y.1)
      have hm := tri_mono (show 1 ≤ all - x.1 by omega) (show all - x.1 ≤ all - y.1 - 1 by omega)
      omega
theorem size_pos {w : Int} (h : okW w) : 2 ≤ sizeS w ∧ sizeS w ≤ 65536 := by
  have h1 := pow_small h
  unfold sizeS
  rw [if_pos h]
  refine ⟨?_, h1.2⟩
  obtain ⟨n, hn⟩ : ∃ n, w.toNat = n + 1 := ⟨w.toNat - 1, by unfold okW at h; omega⟩
  rw [hn, Int.pow_succ]
  have : 0 < (2 : Int) ^ n := Int.pow_pos (by decide)
  omega
theorem powS_pos {p : Prg} (h : okW p.w) (n : Nat) : 1 ≤ powS p n ∧ powS p n ≤ farS ∧ powS p n ≤ sizeS p.w ^ n := by
  have : 0 < sizeS p.w ^ n := Int.pow_pos (by have := size_pos h; omega)
  unfold powS farS
  omega
theorem tri_pos {n : Int} (h : 1 ≤ n) : 0 ≤ n * (n - 1) := Int.mul_nonneg (by omega) (by omega)
theorem tri_even (n : Int) : n * (n - 1) / 2 * 2 = n * (n - 1) := by
  have : n * (n - 1) % 2 = 0 := by
    rw [Int.mul_emod]
    have := Int.emod_two_eq n
    rcases this with h | h
    · rw [h]; simp
    · rw [show (n - 1) % 2 = 0 by omega]; simp
  omega
theorem twoS_pos {n : Int} (h : 1 ≤ n) : 0 ≤ twoS n ∧ twoS n ≤ farS ∧ 2 * twoS n ≤ n * (n - 1) := by
  have h1 := tri_pos h
  have h2 := tri_even n
  unfold twoS farS
  omega
/-- When a pair's number is one, and what it is then. -/
theorem atP_spec {p : Prg} (hw : okW p.w) (i : Int) : (0 ≤ i ∧ i < 1000000 ∧ i < cntS p → ∃ u o q, atP p i = ((startS p (rowP p u o)).1, (startS p (rowP p u q)).1, true) ∧ 0 ≤ u ∧ u < sizeS p.w ^ (openS p).length ∧ 0 ≤ o ∧ o < q ∧ q < sizeS p.w ^ (secS p).length ∧
      u = i / twoS (powS p (secS p).length) ∧ o = (oneS (powS p (secS p).length) (i % twoS (powS p (secS p).length))).1 ∧ q = o + 1 + (oneS (powS p (secS p).length) (i % twoS (powS p (secS p).length))).2) ∧
    (¬ (0 ≤ i ∧ i < 1000000 ∧ i < cntS p) → atP p i = (zeroSta 0, zeroSta 0, false)) := by
  obtain ⟨a1, a2, a3⟩ := powS_pos hw (openS p).length
  obtain ⟨b1, b2, b3⟩ := powS_pos hw (secS p).length
  obtain ⟨c1, c2, c3⟩ := twoS_pos b1
  unfold atP cntS
  generalize powS p (openS p).length = P at *
  generalize hA : powS p (secS p).length = A at *
  generalize twoS A = E at *
  have key : 0 ≤ i → i < 1000000 → E ≠ 0 → (P ≤ i / E ↔ ¬ i < min (P * E) farS) := fun h1 h2 h3 => by
    rw [Int.le_ediv_iff_mul_le (by omega)]
    unfold farS
    omega
  constructor
  · rintro ⟨h1, h2, h3⟩
    have hE : E ≠ 0 := fun e => by rw [e, Int.mul_zero] at h3; unfold farS at h3; omega
    have hk := key h1 h2 hE
    rw [if_neg (by omega)]
    have hd := Int.ediv_nonneg h1 c1
    have m1 := Int.emod_nonneg i hE
    have m2 := Int.emod_lt_of_pos i (show 0 < E by omega)
    obtain ⟨o1, o2, o3, o4, o5⟩ := oneS_spec (all := A) m1 (by omega) (by omega)
    refine ⟨_, _, _, rfl, hd, by omega, o1, by omega, by omega, rfl, rfl, rfl⟩
  · intro h
    by_cases h1 : 0 ≤ i ∧ i < 1000000 ∧ E ≠ 0
    · have hk := key h1.1 h1.2.1 h1.2.2
      rw [if_pos (.inr (.inr (.inr (hk.2 fun q => h ⟨h1.1, h1.2.1, q⟩))))]
    · rw [if_pos (by omega)]
end Go.Proofs.Ytclabjihjopclaa.Ax
end
