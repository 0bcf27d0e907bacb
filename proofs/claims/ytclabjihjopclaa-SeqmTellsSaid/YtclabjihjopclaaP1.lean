/- Places and states that look alike, plainly. -/
import Derived.Test.YtclabjihjopclaaF12
namespace Go.Proofs.Ytclabjihjopclaa.Ax
open Go.RowKit
set_option linter.unusedVariables false
set_option linter.unusedSimpArgs false
theorem rd_left {α : Type} [Row α] (l m : List α) (i : Int) (h0 : 0 ≤ i) (h : i < l.length) : rd (l ++ m) i = rd l i := by
  unfold rd
  rw [List.getD_eq_getElem?_getD, List.getD_eq_getElem?_getD, List.getElem?_append_left (by omega)]
theorem rd_right {α : Type} [Row α] (l m : List α) (i : Int) (h : (l.length : Int) ≤ i) : rd (l ++ m) i = rd m (i - l.length) := by
  unfold rd
  rw [List.getD_eq_getElem?_getD, List.getD_eq_getElem?_getD, List.getElem?_append_right (by omega)]
  congr 2
  omega
theorem rd_memPlace {n at_ i : Int} (s : Bool) (h0 : 0 ≤ i) (h : i < n) : rd (memPlace n at_ s) i = ⟨false, at_ + i, s⟩ := by
  unfold rd memPlace
  rw [List.getD_eq_getElem?_getD, List.getElem?_map, List.getElem?_range (by omega)]
  simp only [Option.map_some, Option.getD_some, Place.mk.injEq, and_true, true_and]
  omega
theorem memPlace_length (n at_ : Int) (s : Bool) (h : 0 ≤ n) : ((memPlace n at_ s).length : Int) = n := by
  unfold memPlace
  simp only [List.length_map, List.length_range]
  omega
/-- Whether a cell is secret. -/
def secM : List PMem → Int → Bool
  | [], _ => false
  | m :: ms, j => if j < m.n then m.secret else secM ms (j - m.n)
theorem mem_memPlace {n at_ : Int} {s : Bool} {x : Place} (h : 0 ≤ n) : x ∈ memPlace n at_ s ↔ x.reg = false ∧ at_ ≤ x.n ∧ x.n < at_ + n ∧ x.secret = s := by
  unfold memPlace
  simp only [List.mem_map, List.mem_range]
  constructor
  · rintro ⟨k, hk, rfl⟩
    exact ⟨rfl, by dsimp only; omega, by dsimp only; omega, rfl⟩
  · rintro ⟨h1, h2, h3, h4⟩
    refine ⟨(x.n - at_).toNat, by omega, ?_⟩
    obtain ⟨r, n', s'⟩ := x
    simp only at h1 h2 h3 h4
    simp only [Place.mk.injEq]
    exact ⟨h1.symm, by omega, h4.symm⟩
theorem mem_memPlaces : ∀ (ms : List PMem) (at_ : Int), (∀ m ∈ ms, 0 ≤ m.n ∧ m.n ≤ 16) → ∀ x : Place, x ∈ memPlaces ms at_ ↔ x.reg = false ∧ at_ ≤ x.n ∧ x.n < at_ + cellsS ms ∧ x.secret = secM ms (x.n - at_)
  | [], at_, _, x => by
    simp only [memPlaces, cellsS, List.not_mem_nil, false_iff]
    intro h; omega
  | m :: ms, at_, h, x => by
    have h0 := h m (by simp)
    have hc := cellsS_nonneg (ms := ms) fun y hy => h y (by simp [hy])
    rw [memPlaces, List.mem_append, mem_memPlace h0.1, mem_memPlaces ms (at_ + m.n) (fun y hy => h y (by simp [hy])) x]
    simp only [cellsS, secM]
    have e : x.n - (at_ + m.n) = x.n - at_ - m.n := by omega
    rw [e]
    by_cases hx : x.n - at_ < m.n
    · rw [if_pos hx]
      constructor
      · rintro (⟨h1, h2, h3, h4⟩ | ⟨h1, h2, h3, h4⟩)
        · exact ⟨h1, h2, by omega, h4⟩
        · omega
      · rintro ⟨h1, h2, h3, h4⟩
        exact .inl ⟨h1, h2, by omega, h4⟩
    · rw [if_neg hx]
      constructor
      · rintro (⟨h1, h2, h3, h4⟩ | ⟨h1, h2, h3, h4⟩)
        · omega
        · exact ⟨h1, by omega, by omega, h4⟩
      · rintro ⟨h1, h2, h3, h4⟩
        exact .inr ⟨h1, by omega, by omega, h4⟩
theorem mem_regPlace {n r : Int} {x : Place} : x ∈ regPlace n r ↔ n ≠ 0 ∧ x.reg = true ∧ x.n = r ∧ x.secret = decide (n = 2) := by
  obtain ⟨a, b, c⟩ := x
  unfold regPlace
  by_cases h : n = 0
  · simp [h]
  · simp [h]
theorem Prg.reg_cases (p : Prg) {r : Int} (h : 0 ≤ r ∧ r < 4) : (r = 0 ∧ p.reg r = p.r0) ∨ (r = 1 ∧ p.reg r = p.r1) ∨ (r = 2 ∧ p.reg r = p.r2) ∨ (r = 3 ∧ p.reg r = p.r3) := by
  have : r = 0 ∨ r = 1 ∨ r = 2 ∨ r = 3 := by omega
  rcases this with rfl | rfl | rfl | rfl <;> simp [Prg.reg]
theorem mem_regPlaces (p : Prg) (x : Place) : x ∈ regPlaces p ↔ x.reg = true ∧ 0 ≤ x.n ∧ x.n < 4 ∧ p.reg x.n ≠ 0 ∧ x.secret = decide (p.reg x.n = 2) := by
  unfold regPlaces
  simp only [List.mem_append, mem_regPlace]
  constructor
  · rintro (((⟨h1, h2, h3, h4⟩ | ⟨h1, h2, h3, h4⟩) | ⟨h1, h2, h3, h4⟩) | ⟨h1, h2, h3, h4⟩)
    all_goals (rw [h3]; refine ⟨h2, by omega, by omega, ?_⟩; simpa [Prg.reg] using ⟨h1, h4⟩)
  · rintro ⟨h1, h2, h3, h4, h5⟩
    rcases p.reg_cases ⟨h2, h3⟩ with ⟨e, h⟩ | ⟨e, h⟩ | ⟨e, h⟩ | ⟨e, h⟩ <;> rw [h] at h4 h5
    · exact .inl (.inl (.inl ⟨h4, h1, e, h5⟩))
    · exact .inl (.inl (.inr ⟨h4, h1, e, h5⟩))
    · exact .inl (.inr ⟨h4, h1, e, h5⟩)
    · exact .inr ⟨h4, h1, e, h5⟩
theorem mem_places (p : Prg) (hm : Mems p.mems) (x : Place) : x ∈ placesS p ↔ (x.reg = true ∧ 0 ≤ x.n ∧ x.n < 4 ∧ p.reg x.n ≠ 0 ∧ x.secret = decide (p.reg x.n = 2)) ∨ (x.reg = false ∧ 0 ≤ x.n ∧ x.n < cellsS p.mems ∧ x.secret = secM p.mems x.n) := by
  unfold placesS
  rw [List.mem_append, mem_regPlaces, mem_memPlaces p.mems 0 hm.n]
  simp
/-- No place comes twice. -/
def PApart (x y : Place) : Prop := ¬ (x.reg = y.reg ∧ x.n = y.n)
theorem memPlace_apart (n at_ : Int) (s : Bool) : (memPlace n at_ s).Pairwise PApart := by
  unfold memPlace
  rw [List.pairwise_map]
  refine List.Pairwise.imp ?_ List.pairwise_lt_range
  rintro a b h ⟨_, h2⟩
  simp only at h2
  omega
theorem memPlaces_apart : ∀ (ms : List PMem) (at_ : Int), (∀ m ∈ ms, 0 ≤ m.n ∧ m.n ≤ 16) → (memPlaces ms at_).Pairwise PApart
  | [], _, _ => List.Pairwise.nil
  | m :: ms, at_, h => by
    rw [memPlaces, List.pairwise_append]
    refine ⟨memPlace_apart .., memPlaces_apart ms _ fun y hy => h y (by simp [hy]), ?_⟩
    intro x hx y hy ⟨_, h2⟩
    rw [mem_memPlace (h m (by simp)).1] at hx
    rw [mem_memPlaces ms _ fun y hy => h y (by simp [hy])] at hy
    omega
theorem regPlaces_apart (p : Prg) : (regPlaces p).Pairwise PApart := by
  have h1 : ∀ n r, (regPlace n r).Pairwise PApart := by
    intro n r; unfold regPlace; split <;> simp
  have h2 : ∀ n r m q, r ≠ q → ∀ x ∈ regPlace n r, ∀ y ∈ regPlace m q, PApart x y := by
    intro n r m q hne x hx y hy ⟨_, h⟩
    rw [mem_regPlace] at hx hy
    exact hne (by rw [← hx.2.2.1, ← hy.2.2.1, h])
  unfold regPlaces
  simp only [List.pairwise_append, List.mem_append]
  refine ⟨⟨⟨h1 _ _, h1 _ _, h2 _ _ _ _ (by decide)⟩, h1 _ _, ?_⟩, h1 _ _, ?_⟩
  · rintro x (hx | hx) y hy
    · exact h2 _ _ _ _ (by decide) x hx y hy
    · exact h2 _ _ _ _ (by decide) x hx y hy
  · rintro x ((hx | hx) | hx) y hy
    · exact h2 _ _ _ _ (by decide) x hx y hy
    · exact h2 _ _ _ _ (by decide) x hx y hy
    · exact h2 _ _ _ _ (by decide) x hx y hy
theorem places_apart (p : Prg) (hm : Mems p.mems) : (placesS p).Pairwise PApart := by
  unfold placesS
  rw [List.pairwise_append]
  refine ⟨regPlaces_apart p, memPlaces_apart _ _ hm.n, ?_⟩
  intro x hx y hy ⟨h, _⟩
  rw [mem_regPlaces] at hx
  rw [mem_memPlaces p.mems 0 hm.n] at hy
  rw [hx.1, hy.1] at h; cases h

/-! What a place holds. -/
def holdP (s : Sta) (x : Place) : Int := if x.reg then s.reg x.n else rd s.mem x.n
theorem reg_setReg (s : Sta) {r q : Int} (n : Int) (hr : 0 ≤ r ∧ r < 4) (hq : 0 ≤ q ∧ q < 4) : (s.setReg r n).reg q = if q = r then n else s.reg q := by
  have h1 : r = 0 ∨ r = 1 ∨ r = 2 ∨ r = 3 := by omega
  have h2 : q = 0 ∨ q = 1 ∨ q = 2 ∨ q = 3 := by omega
  rcases h1 with rfl | rfl | rfl | rfl <;> rcases h2 with rfl | rfl | rfl | rfl <;> rfl
theorem setReg_mem (s : Sta) (r n : Int) : (s.setReg r n).mem = s.mem ∧ (s.setReg r n).stack = s.stack ∧ (s.setReg r n).pc = s.pc := by
  unfold Sta.setReg
  repeat' split
  all_goals exact ⟨rfl, rfl, rfl⟩
theorem rd_set {l : List Int} {i j : Int} (v : Int) (hi : 0 ≤ i ∧ i < l.length) (hj : 0 ≤ j) : rd (l.set i.toNat v) j = if j = i then v else rd l j := by
  unfold rd
  rw [List.getD_eq_getElem?_getD, List.getD_eq_getElem?_getD, List.getElem?_set]
  by_cases h : j = i
  · subst h; rw [if_pos rfl, if_pos (by omega), if_pos rfl]; rfl
  · rw [if_neg (by omega), if_neg h]
theorem Sta.ext_iff' {a b : Sta} {c : Int} (ha : a.mem.length = c) (hb : b.mem.length = c) : a = b ↔ a.stack = b.stack ∧ a.pc = b.pc ∧ (∀ r, 0 ≤ r ∧ r < 4 → a.reg r = b.reg r) ∧ ∀ j, 0 ≤ j ∧ j < c → rd a.mem j = rd b.mem j := by
  constructor
  · rintro rfl; exact ⟨rfl, rfl, fun _ _ => rfl, fun _ _ => rfl⟩
  · rintro ⟨h1, h2, h3, h4⟩
    rw [Sta.eq_iff]
    refine ⟨h3 0 (by omega), h3 1 (by omega), h3 2 (by omega), h3 3 (by omega), ?_, h1, h2⟩
    apply List.ext_getElem (by omega)
    intro i g1 g2
    have := h4 i (by omega)
    rwa [rd_lt _ _ g1, rd_lt _ _ g2] at this
/-- The secrets of one state put into another one. -/
theorem seen_fold (t : Sta) (c : Int) : ∀ (q : List Place) (s : Sta), PlacesOk q c → s.mem.length = c →
    (q.foldl (seenS t) s).mem.length = c ∧ (q.foldl (seenS t) s).stack = s.stack ∧ (q.foldl (seenS t) s).pc = s.pc ∧
    (∀ r, 0 ≤ r ∧ r < 4 → (q.foldl (seenS t) s).reg r = if ⟨true, r, true⟩ ∈ q then t.reg r else s.reg r) ∧
    (∀ j, 0 ≤ j ∧ j < c → rd (q.foldl (seenS t) s).mem j = if ⟨false, j, true⟩ ∈ q then rd t.mem j else rd s.mem j)
  | [], s, _, hc => ⟨hc, rfl, rfl, fun _ _ => rfl, fun _ _ => rfl⟩
  | x :: q, s, hq, hc => by
    have hx := hq x (by simp)
    have hq' : PlacesOk q c := fun y hy => hq y (by simp [hy])
    obtain ⟨xr, xn, xs⟩ := x
    cases xs with
    | false =>
      have e : seenS t s ⟨xr, xn, false⟩ = s := rfl
      rw [List.foldl_cons, e]
      obtain ⟨h1, h2, h3, h4, h5⟩ := seen_fold t c q s hq' hc
      refine ⟨h1, h2, h3, fun r hr => ?_, fun j hj => ?_⟩
      · rw [h4 r hr]; simp
      · rw [h5 j hj]; simp
    | true =>
      cases xr with
      | true =>
        have e : seenS t s ⟨true, xn, true⟩ = s.setReg xn (t.reg xn) := rfl
        have hr0 := hx.1 rfl
        rw [List.foldl_cons, e]
        obtain ⟨m1, m2, m3⟩ := setReg_mem s xn (t.reg xn)
        obtain ⟨h1, h2, h3, h4, h5⟩ := seen_fold t c q (s.setReg xn (t.reg xn)) hq' (by rw [m1]; exact hc)
        refine ⟨h1, h2.trans m2, h3.trans m3, fun r hr => ?_, fun j hj => ?_⟩
        · rw [h4 r hr, reg_setReg s _ hr0 hr]
          by_cases e1 : r = xn
          · subst e1; simp
          · simp [e1]
        · rw [h5 j hj, m1]; simp
      | false =>
        have e : seenS t s ⟨false, xn, true⟩ = { s with mem := s.mem.set xn.toNat (rd t.mem xn) } := rfl
        have hr0 := hx.2 rfl
        rw [List.foldl_cons, e]
        obtain ⟨h1, h2, h3, h4, h5⟩ := seen_fold t c q { s with mem := s.mem.set xn.toNat (rd t.mem xn) } hq' (by simpa using hc)
        refine ⟨h1, h2, h3, fun r hr => ?_, fun j hj => ?_⟩
        · rw [h4 r hr]; simp [Sta.reg]
        · rw [h5 j hj]
          simp only
          rw [rd_set _ ⟨hr0.1, by omega⟩ hj.1]
          by_cases e1 : j = xn
          · subst e1; simp
          · simp [e1]
/-- Two states look alike. -/
theorem lowS_iff {p : Prg} {s t : Sta} (hm : Mems p.mems) (hs : s.mem.length = cellsS p.mems) (ht : t.mem.length = cellsS p.mems) : lowS p s t = true ↔ s.stack = t.stack ∧ s.pc = t.pc ∧ (∀ r, 0 ≤ r ∧ r < 4 → p.reg r ≠ 2 → s.reg r = t.reg r) ∧ ∀ j, 0 ≤ j ∧ j < cellsS p.mems → secM p.mems j = false → rd s.mem j = rd t.mem j := by
  unfold lowS
  rw [if_pos ⟨hs, ht⟩, decide_eq_true_iff]
  obtain ⟨h1, h2, h3, h4, h5⟩ := seen_fold t (cellsS p.mems) (placesS p) s (places_ok p hm) hs
  rw [Sta.ext_iff' h1 ht, h2, h3]
  have k1 : ∀ r, 0 ≤ r ∧ r < 4 → ((⟨true, r, true⟩ : Place) ∈ placesS p ↔ p.reg r = 2) := by
    intro r hr
    rw [mem_places p hm]
    simp only [true_and, Bool.true_eq_false, false_and, or_false]
    constructor
    · rintro ⟨_, _, _, h⟩; simpa using h.symm
    · intro h; exact ⟨hr.1, hr.2, by omega, by simp [h]⟩
  have k2 : ∀ j, 0 ≤ j ∧ j < cellsS p.mems → ((⟨false, j, true⟩ : Place) ∈ placesS p ↔ secM p.mems j = true) := by
    intro r hr
    rw [mem_places p hm]
    simp only [Bool.false_eq_true, false_and, false_or, true_and]
    constructor
    · rintro ⟨_, _, h⟩; exact h.symm
    · intro h; exact ⟨hr.1, hr.2, h.symm⟩
  refine and_congr_right fun _ => and_congr_right fun _ => and_congr ⟨fun h r hr hn => ?_, fun h r hr => ?_⟩ ⟨fun h j hj hn => ?_, fun h j hj => ?_⟩
  · have := h r hr
    rw [h4 r hr, if_neg (by rw [k1 r hr]; exact hn)] at this
    exact this
  · rw [h4 r hr]
    split
    · rfl
    · rename_i hn; rw [k1 r hr] at hn; exact h r hr hn
  · have := h j hj
    rw [h5 j hj, if_neg (by rw [k2 j hj]; simp [hn])] at this
    exact this
  · rw [h5 j hj]
    split
    · rfl
    · rename_i hn; rw [k2 j hj] at hn; exact h j hj (by simpa using hn)
/-- In words of places. -/
theorem lowS_places {p : Prg} {s t : Sta} (hm : Mems p.mems) (hs : s.mem.length = cellsS p.mems) (ht : t.mem.length = cellsS p.mems)
    (hz : ∀ r, 0 ≤ r ∧ r < 4 → p.reg r = 0 → s.reg r = t.reg r) : lowS p s t = true ↔ s.stack = t.stack ∧ s.pc = t.pc ∧ ∀ x ∈ placesS p, x.secret = false → holdP s x = holdP t x := by
  rw [lowS_iff hm hs ht]
  refine and_congr_right fun _ => and_congr_right fun _ => ⟨fun ⟨h1, h2⟩ x hx hn => ?_, fun h => ⟨fun r hr hn => ?_, fun j hj hn => ?_⟩⟩
  · rw [mem_places p hm] at hx
    unfold holdP
    rcases hx with ⟨g1, g2, g3, g4, g5⟩ | ⟨g1, g2, g3, g4⟩
    · rw [g1, if_pos rfl, if_pos rfl]; exact h1 _ ⟨g2, g3⟩ (by intro e; rw [hn] at g5; simp [e] at g5)
    · rw [g1, if_neg (by decide), if_neg (by decide)]; exact h2 _ ⟨g2, g3⟩ (by rw [← g4]; exact hn)
  · by_cases e : p.reg r = 0
    · exact hz r hr e
    · exact h ⟨true, r, false⟩ ((mem_places p hm _).2 (.inl ⟨rfl, hr.1, hr.2, e, by simp [hn]⟩)) rfl
  · exact h ⟨false, j, false⟩ ((mem_places p hm _).2 (.inr ⟨rfl, hj.1, hj.2, hn.symm⟩)) rfl

/-! A state that was begun. -/
theorem fill_hold (w : Int) (c : Int) : ∀ (q : List Place) (l : List Int) (s : Sta), PlacesOk q c → q.Pairwise PApart → l.length = q.length → s.mem.length = c →
    (fillS w q l s).mem.length = c ∧ (fillS w q l s).stack = s.stack ∧ (fillS w q l s).pc = s.pc ∧
    (∀ i : Nat, (h : i < q.length) → holdP (fillS w q l s) q[i] = maskS w (rd l i)) ∧
    (∀ r, 0 ≤ r ∧ r < 4 → (∀ x ∈ q, x.reg = true → x.n ≠ r) → (fillS w q l s).reg r = s.reg r) ∧
    (∀ j, 0 ≤ j ∧ j < c → (∀ x ∈ q, x.reg = false → x.n ≠ j) → rd (fillS w q l s).mem j = rd s.mem j)
  | [], l, s, _, _, _, hc => by
    have e : fillS w [] l s = s := by cases l <;> rfl
    rw [e]
    exact ⟨hc, rfl, rfl, fun i h => by simp at h, fun _ _ _ => rfl, fun _ _ _ => rfl⟩
  | x :: q, [], s, _, _, hl, _ => by simp at hl
  | x :: q, n :: l, s, hq, ha, hl, hc => by
    have hx := hq x (by simp)
    have hq' : PlacesOk q c := fun y hy => hq y (by simp [hy])
    obtain ⟨ha1, ha2⟩ := List.pairwise_cons.1 ha
    have e : fillS w (x :: q) (n :: l) s = fillS w q l (putPlace s x (maskS w n)) := rfl
    rw [e]
    obtain ⟨xr, xn, xs⟩ := x
    cases xr with
    | true =>
      have hr0 := hx.1 rfl
      have e2 : putPlace s ⟨true, xn, xs⟩ (maskS w n) = s.setReg xn (maskS w n) := rfl
      rw [e2]
      obtain ⟨m1, m2, m3⟩ := setReg_mem s xn (maskS w n)
      obtain ⟨h1, h2, h3, h4, h5, h6⟩ := fill_hold w c q l (s.setReg xn (maskS w n)) hq' ha2 (by simpa using hl) (by rw [m1]; exact hc)
      refine ⟨h1, h2.trans m2, h3.trans m3, fun i hi => ?_, fun r hr hn => ?_, fun j hj hn => ?_⟩
      · cases i with
        | zero =>
          show holdP _ (⟨true, xn, xs⟩ : Place) = maskS w (rd (n :: l) ((0 : Nat) : Int))
          unfold holdP
          rw [if_pos rfl, h5 xn hr0 fun y hy hyr hyn => ha1 y hy ⟨hyr.symm, hyn.symm⟩, reg_setReg s _ hr0 hr0, if_pos rfl]
          rfl
        | succ i =>
          have h4i := h4 i (by simpa using hi)
          simp only [List.getElem_cons_succ]
          rw [h4i]
          congr 1
      · rw [h5 r hr fun y hy => hn y (by simp [hy]), reg_setReg s _ hr0 hr, if_neg fun e => hn _ (by simp) rfl e.symm]
      · rw [h6 j hj fun y hy => hn y (by simp [hy]), m1]
    | false =>
      have hr0 := hx.2 rfl
      have e2 : putPlace s ⟨false, xn, xs⟩ (maskS w n) = { s with mem := s.mem.set xn.toNat (maskS w n) } := rfl
      rw [e2]
      obtain ⟨h1, h2, h3, h4, h5, h6⟩ := fill_hold w c q l { s with mem := s.mem.set xn.toNat (maskS w n) } hq' ha2 (by simpa using hl) (by simpa using hc)
      refine ⟨h1, h2, h3, fun i hi => ?_, fun r hr hn => ?_, fun j hj hn => ?_⟩
      · cases i with
        | zero =>
          show holdP _ (⟨false, xn, xs⟩ : Place) = maskS w (rd (n :: l) ((0 : Nat) : Int))
          unfold holdP
          rw [if_neg (by simp)]
          show rd (fillS _ _ _ _).mem xn = _
          rw [h6 xn hr0 fun y hy hyr hyn => ha1 y hy ⟨hyr.symm, hyn.symm⟩]
          simp only
          rw [rd_set _ ⟨hr0.1, by omega⟩ hr0.1, if_pos rfl]
          rfl
        | succ i =>
          have h4i := h4 i (by simpa using hi)
          simp only [List.getElem_cons_succ]
          rw [h4i]
          congr 1
      · rw [h5 r hr fun y hy => hn y (by simp [hy])]; rfl
      · rw [h6 j hj fun y hy => hn y (by simp [hy])]
        simp only
        rw [rd_set _ ⟨hr0.1, by omega⟩ hj.1, if_neg fun e => hn _ (by simp) rfl e.symm]
theorem start_hold (p : Prg) (hm : Mems p.mems) (l : List Int) (hl : l.length = (placesS p).length) : ∃ s, startS p l = (s, true) ∧ s.mem.length = cellsS p.mems ∧ s.stack = [] ∧ s.pc = 0 ∧ (∀ i : Nat, (h : i < (placesS p).length) → holdP s (placesS p)[i] = maskS p.w (rd l i)) ∧ (∀ r, 0 ≤ r ∧ r < 4 → p.reg r = 0 → s.reg r = 0) := by
  have h0 := (places_len p hm).2.2
  obtain ⟨h1, h2, h3, h4, h5, h6⟩ := fill_hold p.w (cellsS p.mems) (placesS p) l (zeroSta (cellsS p.mems).toNat) (places_ok p hm) (places_apart p hm) hl (by simp [zeroSta]; omega)
  refine ⟨_, if_pos hl, h1, h2, h3, h4, fun r hr e => ?_⟩
  rw [h5 r hr ?_]
  · have : r = 0 ∨ r = 1 ∨ r = 2 ∨ r = 3 := by omega
    rcases this with rfl | rfl | rfl | rfl <;> rfl
  · intro x hx hxr hn
    rw [mem_places p hm] at hx
    rcases hx with ⟨g1, g2, g3, g4, g5⟩ | ⟨g1, g2, g3, g4⟩
    · rw [hn] at g4; exact g4 e
    · rw [hxr] at g1; cases g1
noncomputable def v_make (x : List Int × Unit) : Prg := makeS x.1
def sh_make (p : Prg) : RR := .agg (p.cells.map .d)
theorem e_make (x : List Int × Unit) : sh_make (v_make x) = c_make.ans x := rfl
def v_states (x : Prg × List Int × Int) : Sta × Sta := statesS x.1 x.2.1 x.2.2
theorem e_states (x : Prg × List Int × Int) : rss (v_states x) = c_states.ans x := rfl
def sh_states (x : Sta × Sta) : RR := rss x
theorem e_rPlaces (x : Prg) : rplaces (placesS x) = c_rPlaces.ans x := rfl
def v_rPlaces (x : Prg) : List Place := placesS x
def sh_rPlaces (x : List Place) : RR := rplaces x
theorem e_aLow (x : Prg × Sta × Sta) : rb (lowS x.1 x.2.1 x.2.2) = c_aLow.ans x := rfl
def v_aLow (x : Prg × Sta × Sta) : Bool := lowS x.1 x.2.1 x.2.2
def sh_aLow (x : Bool) : RR := rb x
theorem low_put {p : Prg} {a : Sta} {x : Place} {v : Int} (hm : Mems p.mems) (ha : a.mem.length = cellsS p.mems) (hx : x ∈ placesS p) (hv : v ≠ holdP a x) : lowS p a (putPlace a x v) = x.secret ∧ lowS p (putPlace a x v) a = x.secret ∧ (putPlace a x v).mem.length = cellsS p.mems ∧ (putPlace a x v).stack = a.stack ∧ (putPlace a x v).pc = a.pc := by
  rw [mem_places p hm] at hx
  obtain ⟨xr, xn, xs⟩ := x
  rcases hx with ⟨g1, g2, g3, g4, g5⟩ | ⟨g1, g2, g3, g4⟩ <;> simp only at g1 <;> subst g1
  · have e : putPlace a ⟨true, xn, xs⟩ v = a.setReg xn v := rfl
    simp only at g2 g3 g4 g5
    have hv : v ≠ a.reg xn := hv
    obtain ⟨m1, m2, m3⟩ := setReg_mem a xn v
    rw [e]
    refine ⟨?_, ?_, by rw [m1]; exact ha, m2, m3⟩
    all_goals rw [Bool.eq_iff_iff, lowS_iff hm (by first | exact ha | (rw [m1]; exact ha)) (by first | exact ha | (rw [m1]; exact ha)), m1, m2, m3, g5, decide_eq_true_iff]
    all_goals constructor
    all_goals first
      | (rintro ⟨_, _, h, _⟩
         refine Classical.byContradiction fun hn => ?_
         have := h xn ⟨g2, g3⟩ hn
         rw [reg_setReg a v ⟨g2, g3⟩ ⟨g2, g3⟩, if_pos rfl] at this
         first | exact hv this | exact hv this.symm)
      | (intro h
         refine ⟨rfl, rfl, fun r hr hn => ?_, fun _ _ _ => rfl⟩
         rw [reg_setReg a v ⟨g2, g3⟩ hr, if_neg (fun e => hn (by rw [e]; exact h))])
  · have e : putPlace a ⟨false, xn, xs⟩ v = { a with mem := a.mem.set xn.toNat v } := rfl
    simp only at g2 g3 g4
    have hv : v ≠ rd a.mem xn := hv
    have m1 : ({ a with mem := a.mem.set xn.toNat v } : Sta).mem.length = cellsS p.mems := by simpa using ha
    rw [e]
    refine ⟨?_, ?_, m1, rfl, rfl⟩
    all_goals rw [Bool.eq_iff_iff, lowS_iff hm (by first | exact ha | exact m1) (by first | exact ha | exact m1), g4]
    all_goals constructor
    all_goals first
      | (rintro ⟨_, _, _, h⟩
         refine Classical.byContradiction fun hn => ?_
         have := h xn ⟨g2, g3⟩ (by simpa using hn)
         rw [rd_set v ⟨g2, by omega⟩ g2, if_pos rfl] at this
         first | exact hv this | exact hv this.symm)
      | (intro h
         refine ⟨rfl, rfl, fun r hr hn => rfl, fun j hj hn => ?_⟩
         rw [rd_set v ⟨g2, by omega⟩ hj.1, if_neg (fun e => by rw [e, show secM p.mems xn = true from h] at hn; cases hn)])
theorem low_stack {p : Prg} {s t : Sta} (hm : Mems p.mems) (hs : s.mem.length = cellsS p.mems) (ht : t.mem.length = cellsS p.mems) (h : s.stack ≠ t.stack) : lowS p s t = false := by
  rw [Bool.eq_false_iff]
  intro hc
  exact h ((lowS_iff hm hs ht).1 hc).1
theorem xor1_ne {v : Int} (h0 : 0 ≤ v) (h1 : v < 65536) : bits .xor .i64 v 1 ≠ v := by
  obtain ⟨n, rfl⟩ := Int.eq_ofNat_of_zero_le h0
  have := bits_xorN n 1 (by omega) (by omega)
  rw [show ((1 : Nat) : Int) = 1 from rfl] at this
  rw [this]
  intro h
  have h2 : n ^^^ 1 = n := by exact_mod_cast h
  have h3 : n ^^^ (n ^^^ 1) = n ^^^ n := by rw [h2]
  rw [← Nat.xor_assoc, Nat.xor_self, Nat.zero_xor] at h3
  exact absurd h3 (by decide)
theorem WFM.toMems {p : Prg} (h : WFM p) : Mems p.mems := ⟨by have := h.mems.len; omega, fun m hm => by have := h.mems.n m hm; omega⟩
theorem low_none {p : Prg} {a b : Sta} (hm : Mems p.mems) (hq : (placesS p).length = 0) (ha : a.mem.length = cellsS p.mems) (hb : b.mem.length = cellsS p.mems) {r : Int} (hr : 0 ≤ r ∧ r < 4) (hne : a.reg r ≠ b.reg r) : lowS p a b = false := by
  rw [Bool.eq_false_iff]
  intro hc
  have h1 := ((lowS_iff hm ha hb).1 hc).2.2.1 r hr
  have h2 : p.reg r = 0 := Classical.byContradiction fun h => by
    have := (mem_places p hm ⟨true, r, decide (p.reg r = 2)⟩).2 (.inl ⟨rfl, hr.1, hr.2, h, rfl⟩)
    rw [List.eq_nil_of_length_eq_zero hq] at this
    cases this
  exact hne (h1 (by omega))
theorem low_self {p : Prg} {a : Sta} (hm : Mems p.mems) (ha : a.mem.length = cellsS p.mems) : lowS p a a = true := (lowS_iff hm ha ha).2 ⟨rfl, rfl, fun _ _ _ => rfl, fun _ _ _ => rfl⟩
theorem noplace_reg {p : Prg} (hm : Mems p.mems) (hq : (placesS p).length = 0) {r : Int} (hr : 0 ≤ r ∧ r < 4) : p.reg r = 0 := Classical.byContradiction fun h => by
  have := (mem_places p hm ⟨true, r, decide (p.reg r = 2)⟩).2 (.inl ⟨rfl, hr.1, hr.2, h, rfl⟩)
  rw [List.eq_nil_of_length_eq_zero hq] at this
  cases this
theorem wrap_succ0 {v : Int} (h : v = 0) : v ≠ IntKind.wrap .i64 (v + 1) := by subst h; decide
theorem tmod_range {a : Int} {n : Nat} (ha : 0 ≤ a) (hn : n ≠ 0) : 0 ≤ Int.tmod a n ∧ Int.tmod a n < n := ⟨Int.tmod_nonneg _ ha, Int.tmod_lt_of_pos a (show (0 : Int) < (n : Int) by omega)⟩
end Go.Proofs.Ytclabjihjopclaa.Ax
