/- Runes of bytes, one behind the other. -/
import Derived.Test.YtmhfhobaicklmaaM2
namespace Go.Proofs.Ytmhfhobaicklmaa.Ax
open Go.RowKit
set_option linter.unusedVariables false

/-- The same as Utf8.decode at a place, of the bytes from there on. -/
def decodeL (l : List UInt8) : Nat × Nat :=
  let at' (k : Nat) : Nat := (l.getD k 0).toNat
  let cont (k : Nat) : Bool := k < l.length && at' k / 64 == 2
  let b0 := at' 0
  if b0 < 0x80 then (b0, 1)
  else if b0 / 32 == 6 && cont 1 then
    let c := (b0 % 32) * 64 + at' 1 % 64
    if c ≥ 0x80 then (c, 2) else (Utf8.runeError, 1)
  else if b0 / 16 == 14 && cont 1 && cont 2 then
    let c := (b0 % 16) * 4096 + (at' 1 % 64) * 64 + at' 2 % 64
    if c ≥ 0x800 && Utf8.valid c then (c, 3) else (Utf8.runeError, 1)
  else if b0 / 8 == 30 && cont 1 && cont 2 && cont 3 then
    let c := (b0 % 8) * 262144 + (at' 1 % 64) * 4096 + (at' 2 % 64) * 64 + at' 3 % 64
    if c ≥ 0x10000 && Utf8.valid c then (c, 4) else (Utf8.runeError, 1)
  else (Utf8.runeError, 1)
theorem get_drop (s : ByteArray) (i k : Nat) : s.get! (i + k) = (s.data.toList.drop i).getD k 0 := by
  rw [List.getD_eq_getElem?_getD, List.getElem?_drop, Array.getElem?_toList]
  show s.data[i + k]! = _
  rw [getElem!_def]
  cases s.data[i + k]? <;> rfl
theorem decode_L (s : ByteArray) (i : Nat) (h : i ≤ s.size) : Utf8.decode s i = decodeL (s.data.toList.drop i) := by
  have e : ∀ k, decide (i + k < s.size) = decide (k < (s.data.toList.drop i).length) := fun k => by
    have : (s.data.toList.drop i).length = s.size - i := by rw [List.length_drop]; rfl
    rw [this]
    exact decide_eq_decide.2 (by omega)
  unfold Utf8.decode decodeL
  simp only [get_drop, e]
def runesL : Nat → List UInt8 → List Rn
  | 0, _ => []
  | _ + 1, [] => []
  | f + 1, b :: l => ⟨((decodeL (b :: l)).1 : Int)⟩ :: runesL f ((b :: l).drop (decodeL (b :: l)).2)
theorem runesF_L (s : ByteArray) : ∀ (f i : Nat), i ≤ s.size → runesF s f i = runesL f (s.data.toList.drop i)
  | 0, _, _ => rfl
  | f + 1, i, h => by
    have hl : (s.data.toList.drop i).length = s.size - i := by rw [List.length_drop]; rfl
    unfold runesF
    by_cases hi : i < s.size
    · rw [if_pos hi]
      obtain ⟨b, l, e⟩ : ∃ b l, s.data.toList.drop i = b :: l := by
        cases hd : s.data.toList.drop i with
        | nil => rw [hd] at hl; simp at hl; omega
        | cons b l => exact ⟨b, l, rfl⟩
      have hp := decode_pos s i
      have hd := decode_L s i (by omega)
      rw [e]
      show _ = ⟨((decodeL (b :: l)).1 : Int)⟩ :: runesL f ((b :: l).drop (decodeL (b :: l)).2)
      rw [← e, ← hd, List.drop_drop]
      by_cases h2 : i + (Utf8.decode s i).2 ≤ s.size
      · rw [runesF_L s f _ h2]
      · have e1 : runesF s f (i + (Utf8.decode s i).2) = [] := by
          cases f with
          | zero => rfl
          | succ f => unfold runesF; rw [if_neg (by omega)]
        have e2 : s.data.toList.drop (i + (Utf8.decode s i).2) = [] := List.drop_of_length_le (by show s.size ≤ _; omega)
        rw [e1, e2]
        cases f <;> rfl
    · rw [if_neg hi]
      have e : s.data.toList.drop i = [] := List.eq_nil_of_length_eq_zero (by omega)
      rw [e]
      rfl
theorem decodeL_pos (l : List UInt8) : 1 ≤ (decodeL l).2 := by
  unfold decodeL
  dsimp only
  repeat' split
  all_goals exact Nat.succ_le_succ (Nat.zero_le _)
theorem runesL_more : ∀ (f g : Nat) (l : List UInt8), l.length ≤ f → l.length ≤ g → runesL f l = runesL g l
  | 0, 0, _, _, _ => rfl
  | 0, g + 1, [], _, _ => rfl
  | f + 1, 0, [], _, _ => rfl
  | 0, g + 1, b :: l, h, _ => by simp at h
  | f + 1, 0, b :: l, _, h => by simp at h
  | f + 1, g + 1, [], _, _ => rfl
  | f + 1, g + 1, b :: l, h1, h2 => by
    have hp := decodeL_pos (b :: l)
    unfold runesL
    simp only [List.length_cons] at h1 h2
    rw [runesL_more f g _ (by rw [List.length_drop, List.length_cons]; omega) (by rw [List.length_drop, List.length_cons]; omega)]
/-- The runes of bytes. -/
def runesB (l : List UInt8) : List Rn := runesL l.length l
theorem runesS_B (s : ByteArray) : runesS s = runesB s.data.toList := by
  have := runesF_L s s.size 0 (Nat.zero_le _)
  rw [List.drop_zero] at this
  exact this
theorem runesB_nil : runesB [] = [] := rfl
theorem runesB_ascii (b : UInt8) (l : List UInt8) (h : b.toNat < 128) : runesB (b :: l) = ⟨(b.toNat : Int)⟩ :: runesB l := by
  have e : decodeL (b :: l) = (b.toNat, 1) := by
    unfold decodeL
    dsimp only
    rw [if_pos (show ((b :: l).getD 0 0).toNat < 0x80 from h)]
    rfl
  unfold runesB
  show ⟨((decodeL (b :: l)).1 : Int)⟩ :: runesL l.length ((b :: l).drop (decodeL (b :: l)).2) = _
  rw [e]
  rfl
def isAsc (l : List UInt8) : Bool := l.all fun b => decide (b.toNat < 128)
def ascR (l : List UInt8) : List Rn := l.map fun b => ⟨(b.toNat : Int)⟩
theorem runesB_app : ∀ (l m : List UInt8), isAsc l = true → runesB (l ++ m) = ascR l ++ runesB m
  | [], m, _ => rfl
  | b :: l, m, h => by
    unfold isAsc at h
    rw [List.all_cons, Bool.and_eq_true, decide_eq_true_eq] at h
    rw [List.cons_append, runesB_ascii b _ h.1, runesB_app l m h.2]
    rfl
theorem runesB_asc {l : List UInt8} (h : isAsc l = true) : runesB l = ascR l := by
  have := runesB_app l [] h
  rwa [List.append_nil, runesB_nil, List.append_nil] at this
theorem ba_data_app (s t : ByteArray) : (s ++ t).data.toList = s.data.toList ++ t.data.toList := by
  rw [ByteArray.data_append, Array.toList_append]
/-- Text whose runes are told, whatever comes behind it. -/
def Asc (s : ByteArray) (L : List Rn) : Prop := isAsc s.data.toList = true ∧ ascR s.data.toList = L
theorem Asc.runes {s : ByteArray} {L : List Rn} (h : Asc s L) (t : ByteArray) : runesS (s ++ t) = L ++ runesS t := by
  rw [runesS_B, runesS_B, ba_data_app, runesB_app _ _ h.1, h.2]
theorem Asc.runes0 {s : ByteArray} {L : List Rn} (h : Asc s L) : runesS s = L := by
  rw [runesS_B, runesB_asc h.1, h.2]
theorem Asc.app {s t : ByteArray} {L M : List Rn} (h : Asc s L) (g : Asc t M) : Asc (s ++ t) (L ++ M) := by
  refine ⟨?_, ?_⟩
  · rw [ba_data_app]
    unfold isAsc
    rw [List.all_append]
    have h1 := h.1
    have g1 := g.1
    unfold isAsc at h1 g1
    rw [h1, g1]; rfl
  · rw [ba_data_app]
    unfold ascR
    rw [List.map_append]
    have h2 := h.2
    have g2 := g.2
    unfold ascR at h2 g2
    rw [h2, g2]
theorem Asc.size {s : ByteArray} {L : List Rn} (h : Asc s L) : s.size = L.length := by
  rw [← h.2]
  unfold ascR
  rw [List.length_map]
  rfl
theorem Asc.nil : Asc ByteArray.empty [] := ⟨rfl, rfl⟩
end Go.Proofs.Ytmhfhobaicklmaa.Ax
