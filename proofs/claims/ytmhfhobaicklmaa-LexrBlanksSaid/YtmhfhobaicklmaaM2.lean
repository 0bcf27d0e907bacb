/- The signs of a line, in plain words. -/
import Derived.Test.YtmhfhobaicklmaaAxW
namespace Go.Proofs.Ytmhfhobaicklmaa.Ax
open Go.RowKit
set_option linter.unusedVariables false

structure Rn where
  v : Int
  deriving Inhabited, DecidableEq
instance : Row Rn := ⟨fun r => [.int .i32 r.v], fun r => ⟨asInt (r.getD 0 .nilp)⟩, fun _ => rfl, 1, fun _ => rfl⟩
instance : NoRef Rn := ⟨fun _ => rfl⟩
@[simp] theorem rd_Rn_v (l : List Rn) (i : Int) : asInt (List.getD (rowAt (rowsOn l) (Int.toNat i)) 0 .nilp) = (rd l i).v := congrArg Rn.v (of_rowAt l i)
structure Tok where
  kind : Int
  text : ByteArray
  n : Int
  at_ : Int
  deriving Inhabited, DecidableEq
instance : Row Tok := ⟨fun t => [.int .i64 t.kind, .str t.text, .int .i64 t.n, .int .i64 t.at_], fun r => ⟨asInt (r.getD 0 .nilp), asStr (r.getD 1 .nilp), asInt (r.getD 2 .nilp), asInt (r.getD 3 .nilp)⟩, fun _ => rfl, 4, fun _ => rfl⟩
instance : NoRef Tok := ⟨fun _ => rfl⟩
@[simp] theorem rd_Tok_kind (l : List Tok) (i : Int) : asInt (List.getD (rowAt (rowsOn l) (Int.toNat i)) 0 .nilp) = (rd l i).kind := congrArg Tok.kind (of_rowAt l i)
@[simp] theorem rd_Tok_text (l : List Tok) (i : Int) : asStr (List.getD (rowAt (rowsOn l) (Int.toNat i)) 1 .nilp) = (rd l i).text := congrArg Tok.text (of_rowAt l i)
@[simp] theorem rd_Tok_n (l : List Tok) (i : Int) : asInt (List.getD (rowAt (rowsOn l) (Int.toNat i)) 2 .nilp) = (rd l i).n := congrArg Tok.n (of_rowAt l i)
@[simp] theorem rd_Tok_at_ (l : List Tok) (i : Int) : asInt (List.getD (rowAt (rowsOn l) (Int.toNat i)) 3 .nilp) = (rd l i).at_ := congrArg Tok.at_ (of_rowAt l i)

/-! ### Runes -/
def runesF (s : ByteArray) : Nat → Nat → List Rn
  | 0, _ => []
  | f + 1, i => if i < s.size then ⟨((Utf8.decode s i).1 : Int)⟩ :: runesF s f (i + (Utf8.decode s i).2) else []
def runesS (s : ByteArray) : List Rn := runesF s s.size 0
theorem decode_pos (s : ByteArray) (i : Nat) : 1 ≤ (Utf8.decode s i).2 := by
  unfold Utf8.decode
  dsimp only
  repeat' split
  all_goals exact Nat.succ_le_succ (Nat.zero_le _)
/-- Enough rounds are enough. -/
theorem runesF_more (s : ByteArray) : ∀ (f g i : Nat), s.size ≤ i + f → s.size ≤ i + g → runesF s f i = runesF s g i
  | 0, 0, _, _, _ => rfl
  | 0, g + 1, i, h, _ => by unfold runesF; rw [if_neg (by omega)]
  | f + 1, 0, i, _, h => by unfold runesF; rw [if_neg (by omega)]
  | f + 1, g + 1, i, h1, h2 => by
    have := decode_pos s i
    unfold runesF
    by_cases h : i < s.size
    · rw [if_pos h, if_pos h, runesF_more s f g _ (by omega) (by omega)]
    · rw [if_neg h, if_neg h]
/-- What comes from a place on. -/
def runesAt (s : ByteArray) (i : Nat) : List Rn := runesF s s.size i
theorem runesAt_lt (s : ByteArray) (i : Nat) (h : i < s.size) : runesAt s i = ⟨((Utf8.decode s i).1 : Int)⟩ :: runesAt s (i + (Utf8.decode s i).2) := by
  unfold runesAt
  have e : runesF s s.size i = runesF s (s.size + 1) i := runesF_more s _ _ _ (by omega) (by omega)
  rw [e]
  show (if i < s.size then _ else _) = _
  rw [if_pos h]
theorem runesAt_ge (s : ByteArray) (i : Nat) (h : s.size ≤ i) : runesAt s i = [] := by
  unfold runesAt
  cases s.size with
  | zero => rfl
  | succ n => unfold runesF; rw [if_neg (by omega)]
theorem runesF_len (s : ByteArray) : ∀ (f i : Nat), (runesF s f i).length ≤ s.size - i
  | 0, i => by simp [runesF]
  | f + 1, i => by
    have := decode_pos s i
    have ih := runesF_len s f (i + (Utf8.decode s i).2)
    unfold runesF
    split
    · simp only [List.length_cons]; omega
    · simp
theorem runesS_len (s : ByteArray) : (runesS s).length ≤ s.size := runesF_len s s.size 0
def okRune (v : Int) : Prop := 0 ≤ v ∧ v ≤ 0x10FFFF ∧ ¬ (0xD800 ≤ v ∧ v < 0xE000)
theorem valid_nat (c : Nat) (h : Utf8.valid (c : Int) = true) : okRune c := by
  unfold Utf8.valid at h
  simp only [Bool.or_eq_true, Bool.and_eq_true, decide_eq_true_eq] at h
  unfold okRune
  omega
theorem okRune_small {c : Nat} (h : c < 0xD800) : okRune c := by unfold okRune; omega
theorem okRune_err : okRune ((Utf8.runeError : Nat) : Int) := by unfold okRune Utf8.runeError; omega
theorem decode_ok (s : ByteArray) (i : Nat) : okRune ((Utf8.decode s i).1 : Int) := by
  unfold Utf8.decode
  dsimp only
  repeat' split
  all_goals first
    | exact okRune_err
    | (refine okRune_small ?_; dsimp only; omega)
    | (rename_i h; simp only [Bool.and_eq_true, decide_eq_true_eq] at h; exact valid_nat _ h.2)

/-! ### Signs -/
def isLet (v : Int) : Bool := decide (97 ≤ v) && decide (v ≤ 122)
def isDig (v : Int) : Bool := decide (48 ≤ v) && decide (v ≤ 57)
def isNm (v : Int) : Bool := isLet v || isDig v
def isBl (v : Int) : Bool := v == 32 || v == 9
def isSig (v : Int) : Bool := v == 44 || v == 58 || v == 91 || v == 93 || v == 43
/-- Digits, so many at most: what they say, how many they are. -/
def digF : List Rn → Nat → Int → Int × Nat
  | c :: l, m + 1, n => if isDig c.v = true then ((digF l m (10 * n + (c.v - 48))).1, (digF l m (10 * n + (c.v - 48))).2 + 1) else (n, 0)
  | _, _, n => (n, 0)
def numL (l : List Rn) (most : Nat) : Option (Int × Nat) := match l with
  | [] => none
  | c :: _ => if isDig c.v = true then (if c.v = 48 then some (0, 1) else some (digF l most 0)) else none
def numS (l : List Rn) (at_ : Int) (most : Nat) : Int × Int × Bool := match numL (l.drop at_.toNat) most with
  | some (n, k) => (n, at_ + k, true)
  | none => (0, at_, false)
def aloneL : List Rn → Bool
  | [] => true
  | c :: _ => !isNm c.v
def nameL (l : List Rn) : Nat := (l.takeWhile fun c => isNm c.v).length
def txt (l : List Rn) : ByteArray := runesBytes (l.map (·.v))
def signL (l : List Rn) (at_ : Int) : Option (Tok × Nat) := match l with
  | [] => none
  | c :: _ => if isLet c.v = true then some (⟨1, txt (l.take (nameL l)), 0, at_⟩, nameL l)
    else if isDig c.v = true then (match numL l 5 with
      | some (n, k) => some (⟨2, txt (l.take k), n, at_⟩, k)
      | none => none)
    else if isSig c.v = true then some (⟨3, txt [c], 0, at_⟩, 1) else none
def lineF : Nat → List Rn → Int → List Tok × Int × Bool
  | 0, _, _ => ([], 0, true)
  | _ + 1, [], _ => ([], 0, true)
  | f + 1, c :: l, at_ => if c.v = 59 then ([], 0, true) else if isBl c.v = true then lineF f l (at_ + 1)
    else match signL (c :: l) at_ with
      | none => ([], at_, false)
      | some (t, k) => if t.kind = 2 ∧ aloneL ((c :: l).drop k) = false then ([], at_ + k, false)
        else if (lineF f ((c :: l).drop k) (at_ + k)).2.2 = true then (t :: (lineF f ((c :: l).drop k) (at_ + k)).1, (lineF f ((c :: l).drop k) (at_ + k)).2) else lineF f ((c :: l).drop k) (at_ + k)
def lineS (s : ByteArray) : List Tok × Int × Bool := lineF (runesS s).length (runesS s) 0

theorem wrap_small32 (x : Int) (h1 : -2147483648 ≤ x) (h2 : x ≤ 2147483647) : IntKind.wrap .i32 x = x := by
  simp only [IntKind.wrap, IntKind.bits, IntKind.signed]
  try simp
  try omega
theorem isDig_iff {v : Int} : isDig v = true ↔ 48 ≤ v ∧ v ≤ 57 := by unfold isDig; simp
theorem isLet_iff {v : Int} : isLet v = true ↔ 97 ≤ v ∧ v ≤ 122 := by unfold isLet; simp
/-- From a place on: what stands there, and what comes behind. -/
theorem drop_rn (l : List Rn) (i : Int) (h0 : 0 ≤ i) (h : i < l.length) : l.drop i.toNat = rd l i :: l.drop (i + 1).toNat := drop_rd l i h0 h
theorem take_rn {α : Type} [Row α] (l : List α) (k : Int) (h0 : 0 ≤ k) (h : k < l.length) : l.take (k + 1).toNat = l.take k.toNat ++ [rd l k] := by
  rw [show (k + 1).toNat = k.toNat + 1 by omega, List.take_add_one, List.getElem?_eq_getElem (by omega)]
  unfold rd
  rw [List.getD_eq_getElem?_getD, List.getElem?_eq_getElem (by omega)]
  rfl
theorem drop_end {α : Type} (l : List α) (i : Int) (h : (l.length : Int) ≤ i) : l.drop i.toNat = [] := List.drop_of_length_le (by omega)
theorem digF_len : ∀ (l : List Rn) (m : Nat) (n : Int), (digF l m n).2 ≤ l.length ∧ (digF l m n).2 ≤ m
  | [], m, n => by cases m <;> simp [digF]
  | c :: l, 0, n => by simp [digF]
  | c :: l, m + 1, n => by
    have ih := digF_len l m (10 * n + (c.v - 48))
    unfold digF
    split
    · simp only [List.length_cons]; omega
    · simp
theorem digF_stop {c : Rn} (h : ¬ isDig c.v = true) (l : List Rn) (m : Nat) (n : Int) : digF (c :: l) m n = (n, 0) := by
  cases m with
  | zero => rfl
  | succ m => unfold digF; rw [if_neg h]
theorem nameL_len (l : List Rn) : nameL l ≤ l.length := by
  unfold nameL
  exact (List.takeWhile_sublist _).length_le
theorem nameL_cons (c : Rn) (l : List Rn) : nameL (c :: l) = if isNm c.v = true then nameL l + 1 else 0 := by
  unfold nameL
  rw [List.takeWhile_cons]
  split <;> simp
theorem signL_pos {l : List Rn} {a : Int} {t : Tok} {k : Nat} (h : signL l a = some (t, k)) : 1 ≤ k ∧ k ≤ l.length := by
  unfold signL at h
  cases l with
  | nil => cases h
  | cons c l =>
    dsimp only at h
    split at h
    · rename_i hc
      simp only [Option.some.injEq, Prod.mk.injEq] at h
      obtain ⟨_, rfl⟩ := h
      have := nameL_len (c :: l)
      rw [nameL_cons, if_pos (by unfold isNm; rw [hc]; rfl)] at this ⊢
      omega
    · split at h
      · rename_i hd
        split at h
        · rename_i n k' hn
          simp only [Option.some.injEq, Prod.mk.injEq] at h
          obtain ⟨_, rfl⟩ := h
          unfold numL at hn
          dsimp only at hn
          rw [if_pos hd] at hn
          split at hn
          · simp only [Option.some.injEq, Prod.mk.injEq] at hn
            simp only [List.length_cons]; omega
          · simp only [Option.some.injEq] at hn
            have h1 := digF_len (c :: l) 5 0
            have h2 : (digF (c :: l) 5 0).2 = k' := by rw [hn]
            have h3 : 1 ≤ (digF (c :: l) 5 0).2 := by unfold digF; rw [if_pos hd]; simp
            omega
        · cases h
      · split at h
        · simp only [Option.some.injEq, Prod.mk.injEq] at h
          simp only [List.length_cons]; omega
        · cases h
theorem lineF_more : ∀ (f g : Nat) (l : List Rn) (a : Int), l.length ≤ f → l.length ≤ g → lineF f l a = lineF g l a
  | 0, 0, _, _, _, _ => rfl
  | 0, g + 1, [], _, _, _ => rfl
  | f + 1, 0, [], _, _, _ => rfl
  | 0, g + 1, c :: l, _, h, _ => by simp at h
  | f + 1, 0, c :: l, _, _, h => by simp at h
  | f + 1, g + 1, [], _, _, _ => rfl
  | f + 1, g + 1, c :: l, a, h1, h2 => by
    have hl := List.length_cons (a := c) (as := l)
    unfold lineF
    split
    · rfl
    · split
      · exact lineF_more f g l _ (by omega) (by omega)
      · split
        · rfl
        · rename_i t k hs
          have hk := signL_pos hs
          have e : lineF f ((c :: l).drop k) (a + k) = lineF g ((c :: l).drop k) (a + k) := lineF_more f g _ _ (by rw [List.length_drop]; omega) (by rw [List.length_drop]; omega)
          rw [e]
def lineA (l : List Rn) (a : Int) : List Tok × Int × Bool := lineF l.length l a
theorem lineA_nil (a : Int) : lineA [] a = ([], 0, true) := rfl
theorem lineA_cons (c : Rn) (l : List Rn) (a : Int) : lineA (c :: l) a = if c.v = 59 then ([], 0, true) else if isBl c.v = true then lineA l (a + 1)
    else match signL (c :: l) a with
      | none => ([], a, false)
      | some (t, k) => if t.kind = 2 ∧ aloneL ((c :: l).drop k) = false then ([], a + k, false)
        else if (lineA ((c :: l).drop k) (a + k)).2.2 = true then (t :: (lineA ((c :: l).drop k) (a + k)).1, (lineA ((c :: l).drop k) (a + k)).2) else lineA ((c :: l).drop k) (a + k) := by
  unfold lineA
  show lineF (l.length + 1) (c :: l) a = _
  rw [lineF]
  split
  · rfl
  · split
    · rfl
    · split
      · rfl
      · rename_i t k hs
        have hk := signL_pos hs
        have e : lineF l.length ((c :: l).drop k) (a + k) = lineF ((c :: l).drop k).length ((c :: l).drop k) (a + k) := lineF_more _ _ _ _ (by rw [List.length_drop]; simp only [List.length_cons] at hk ⊢; omega) (Nat.le_refl _)
        rw [e]
theorem lineS_A (s : ByteArray) : lineS s = lineA (runesS s) 0 := rfl
end Go.Proofs.Ytmhfhobaicklmaa.Ax
