/- LexrBlanks: more blanks between signs, or a comment, turn nothing but the places. -/
import Derived.Test.YtmhfhobaicklmaaP5
namespace Go.Proofs.Ytmhfhobaicklmaa.Ax
open Go.RowKit
set_option linter.unusedVariables false
set_option linter.unusedSimpArgs false
def rdLI1 : List A → List Int × Int
  | [.c (.sl l), .c (.int _ n)] => (listOf Int l, n)
  | _ => default
def c_lBlk : FT (List Int × Int) := ⟨9, fun x => [al4 x.1, ai x.2], rdLI1, fun _ => True, fun _ => rb true, false, fun x => by simp [al4, ai, rdLI1]⟩
noncomputable def a_lBlk : FnA := (fnA Try.prog Try.f9 2 [(7, [1, 6, 9, 34, 35]), (10, [1, 6, 9, 10, 11, 34, 35]), (20, [6, 12, 15, 75, 76])]).getD ⟨0, .skip, [], []⟩
noncomputable def s_lBlk : Sp := spT [c_awake4.fe, c_lLine.gfe v_lLine sh_lLine e_lLine, c_text.gfe v_text sh_text e_text]
theorem s_lBlk_sound : s_lBlk.sound Try.prog := spT_sound fun e he => by
  simp only [List.mem_cons, List.not_mem_nil, or_false] at he
  rcases he with rfl | rfl | rfl
  · exact c_awake4_good
  · exact FT.gfe_good c_lLine_good
  · exact FT.gfe_good c_text_good
def F_b0 (w : Int) (x : List Tok) (s : ByteArray) (n j : Int) : St := ⟨mkS 165 [(1, vi w), (6, vr (rowsOn x)), (9, vt s), (34, vi n), (35, vi j)], []⟩
def F_b1 (w : Int) (x : List Tok) (s : ByteArray) (i k n j : Int) : St := ⟨mkS 165 [(1, vi w), (6, vr (rowsOn x)), (9, vt s), (10, vi i), (11, vi k), (34, vi n), (35, vi j)], []⟩
def F_b2 (x y : List Tok) (last n j : Int) : St := ⟨mkS 165 [(6, vr (rowsOn x)), (12, vr (rowsOn y)), (15, vi last), (75, vi n), (76, vi j)], []⟩
set_option maxRecDepth 100000 in
theorem t_lBlk (l : List Int) (w : Int) : a_lBlk.start s_lBlk 400 [al4 l, ai w] =
(VC.need (PreOk c_text (l, ()) [A.c (D.sl (rowsOn l))])
(VC.all (v_text (listOf Int (rowsOn l), ())) fun (y2 : ByteArray) =>
(VC.need (PreOk c_lLine (y2, ()) [A.c (D.str y2)])
(VC.all (v_lLine (y2, ())) fun (y3 : List Tok × Int × Bool) =>
(VC.br (!y3.snd.snd)
 (VC.br ((↑(List.length (rowsOn y3.fst)) : Int) == (0 : Int))
  (VC.need (PreOk c_awake4 PUnit.unit [])
  (VC.ret (some (RR.c (Rc.d (D.bool true))))))
  (VC.ret (some (RR.c (Rc.d (D.bool false))))))
 (FnA.at_ a_lBlk 0 (F_b0 w y3.fst { data := #[] } (↑(List.length (rowsOn y3.fst)) : Int) (0 : Int)))))))) := by kernel_rfl
set_option maxRecDepth 100000 in
theorem t_lBl0 (w : Int) (x : List Tok) (s : ByteArray) (n j : Int) : a_lBlk.round s_lBlk 400 0 (F_b0 w x s n j) =
(VC.br (decide (j < n))
 (FnA.at_ a_lBlk 1 (F_b1 w x s j (0 : Int) n j))
 (VC.need (ByteArray.size s + (7 : Nat) ≤ (9223372036854775807 : Nat))
 (VC.need (PreOk c_lLine (s ++ { data := #[(9 : UInt8), (59 : UInt8), (32 : UInt8), (255 : UInt8), (32 : UInt8), (48 : UInt8), (49 : UInt8)] }, ()) [A.c (D.str (s ++ { data := #[(9 : UInt8), (59 : UInt8), (32 : UInt8), (255 : UInt8), (32 : UInt8), (48 : UInt8), (49 : UInt8)] }))])
 (VC.all (v_lLine (s ++ { data := #[(9 : UInt8), (59 : UInt8), (32 : UInt8), (255 : UInt8), (32 : UInt8), (48 : UInt8), (49 : UInt8)] }, ())) fun (y5 : List Tok × Int × Bool) =>
 (VC.br (!y5.snd.snd)
  (VC.ret (some (RR.c (Rc.d (D.bool false)))))
  (VC.br ((↑(List.length (rowsOn y5.fst)) : Int) != (↑(List.length (rowsOn x)) : Int))
   (VC.ret (some (RR.c (Rc.d (D.bool false)))))
   (FnA.at_ a_lBlk 2 (F_b2 x y5.fst (-1 : Int) (↑(List.length (rowsOn x)) : Int) (0 : Int))))))))) := by kernel_rfl
set_option maxRecDepth 100000 in
theorem t_lBl1 (w : Int) (x : List Tok) (s : ByteArray) (i k n j : Int) : a_lBlk.round s_lBlk 400 1 (F_b1 w x s i k n j) =
(VC.need ((0 : Int) ≤ IntKind.wrap IntKind.u64 (bits BinOp.and IntKind.i64 i (31 : Int)))
(VC.br (decide (k ≤ bits BinOp.and IntKind.i64 (Int.fdiv w ((2 : Int) ^ min (Int.toNat (IntKind.wrap IntKind.u64 (bits BinOp.and IntKind.i64 i (31 : Int)))) (64 : Nat))) (3 : Int)))
 (VC.need (ByteArray.size s + (1 : Nat) ≤ (9223372036854775807 : Nat))
 (FnA.at_ a_lBlk 1 (F_b1 w x (s ++ { data := #[(32 : UInt8)] }) i (IntKind.wrap IntKind.i64 (k + (1 : Int))) n j)))
 (VC.need ((0 : Int) ≤ i ∧ i < (↑(List.length (rowsOn x)) : Int) ∧ List.length (rowAt (rowsOn x) (Int.toNat i)) = (4 : Nat))
 (VC.need (okSh [Kd.str] (List.drop (1 : Nat) (rowAt (rowsOn x) (Int.toNat i))))
 (VC.need (ByteArray.size s + ByteArray.size (asStr (List.getD (List.drop (1 : Nat) (rowAt (rowsOn x) (Int.toNat i))) (0 : Nat) D.nilp)) ≤ (9223372036854775807 : Nat))
 (FnA.at_ a_lBlk 0 (F_b0 w x (s ++ asStr (List.getD (List.drop (1 : Nat) (rowAt (rowsOn x) (Int.toNat i))) (0 : Nat) D.nilp)) n (IntKind.wrap IntKind.i64 (j + (1 : Int)))))))))) := by kernel_rfl
set_option maxRecDepth 100000 in
theorem t_lBl2 (x y : List Tok) (last n j : Int) : a_lBlk.round s_lBlk 400 2 (F_b2 x y last n j) =
(VC.br (decide (j < n))
 (VC.need ((0 : Int) ≤ j ∧ j < (↑(List.length (rowsOn y)) : Int) ∧ List.length (rowAt (rowsOn y) (Int.toNat j)) = (4 : Nat))
 (VC.need (okSh [Kd.int IntKind.i64] (List.drop (0 : Nat) (rowAt (rowsOn y) (Int.toNat j))))
 (VC.need ((0 : Int) ≤ j ∧ j < (↑(List.length (rowsOn x)) : Int) ∧ List.length (rowAt (rowsOn x) (Int.toNat j)) = (4 : Nat))
 (VC.need (okSh [Kd.int IntKind.i64] (List.drop (0 : Nat) (rowAt (rowsOn x) (Int.toNat j))))
 (VC.br (asInt (List.getD (List.drop (0 : Nat) (rowAt (rowsOn y) (Int.toNat j))) (0 : Nat) D.nilp) != asInt (List.getD (List.drop (0 : Nat) (rowAt (rowsOn x) (Int.toNat j))) (0 : Nat) D.nilp))
  (VC.ret (some (RR.c (Rc.d (D.bool false)))))
  (VC.need ((0 : Int) ≤ j ∧ j < (↑(List.length (rowsOn y)) : Int) ∧ List.length (rowAt (rowsOn y) (Int.toNat j)) = (4 : Nat))
  (VC.need (okSh [Kd.str] (List.drop (1 : Nat) (rowAt (rowsOn y) (Int.toNat j))))
  (VC.need ((0 : Int) ≤ j ∧ j < (↑(List.length (rowsOn x)) : Int) ∧ List.length (rowAt (rowsOn x) (Int.toNat j)) = (4 : Nat))
  (VC.need (okSh [Kd.str] (List.drop (1 : Nat) (rowAt (rowsOn x) (Int.toNat j))))
  (VC.br (!ByteArray.toList (asStr (List.getD (List.drop (1 : Nat) (rowAt (rowsOn y) (Int.toNat j))) (0 : Nat) D.nilp)) == ByteArray.toList (asStr (List.getD (List.drop (1 : Nat) (rowAt (rowsOn x) (Int.toNat j))) (0 : Nat) D.nilp)))
   (VC.ret (some (RR.c (Rc.d (D.bool false)))))
   (VC.need ((0 : Int) ≤ j ∧ j < (↑(List.length (rowsOn y)) : Int) ∧ List.length (rowAt (rowsOn y) (Int.toNat j)) = (4 : Nat))
   (VC.need (okSh [Kd.int IntKind.i64] (List.drop (2 : Nat) (rowAt (rowsOn y) (Int.toNat j))))
   (VC.need ((0 : Int) ≤ j ∧ j < (↑(List.length (rowsOn x)) : Int) ∧ List.length (rowAt (rowsOn x) (Int.toNat j)) = (4 : Nat))
   (VC.need (okSh [Kd.int IntKind.i64] (List.drop (2 : Nat) (rowAt (rowsOn x) (Int.toNat j))))
   (VC.br (asInt (List.getD (List.drop (2 : Nat) (rowAt (rowsOn y) (Int.toNat j))) (0 : Nat) D.nilp) != asInt (List.getD (List.drop (2 : Nat) (rowAt (rowsOn x) (Int.toNat j))) (0 : Nat) D.nilp))
    (VC.ret (some (RR.c (Rc.d (D.bool false)))))
    (VC.need ((0 : Int) ≤ j ∧ j < (↑(List.length (rowsOn x)) : Int) ∧ List.length (rowAt (rowsOn x) (Int.toNat j)) = (4 : Nat))
    (VC.need (okSh [Kd.int IntKind.i64] (List.drop (3 : Nat) (rowAt (rowsOn x) (Int.toNat j))))
    (VC.br (decide (asInt (List.getD (List.drop (3 : Nat) (rowAt (rowsOn x) (Int.toNat j))) (0 : Nat) D.nilp) ≤ last))
     (VC.ret (some (RR.c (Rc.d (D.bool false)))))
     (VC.need ((0 : Int) ≤ j ∧ j < (↑(List.length (rowsOn x)) : Int) ∧ List.length (rowAt (rowsOn x) (Int.toNat j)) = (4 : Nat))
     (VC.need (okSh [Kd.str] (List.drop (1 : Nat) (rowAt (rowsOn x) (Int.toNat j))))
     (VC.br ((↑(ByteArray.size (asStr (List.getD (List.drop (1 : Nat) (rowAt (rowsOn x) (Int.toNat j))) (0 : Nat) D.nilp))) : Int) == (0 : Int))
      (VC.ret (some (RR.c (Rc.d (D.bool false)))))
      (VC.need ((0 : Int) ≤ j ∧ j < (↑(List.length (rowsOn x)) : Int) ∧ List.length (rowAt (rowsOn x) (Int.toNat j)) = (4 : Nat))
      (VC.need (okSh [Kd.int IntKind.i64] (List.drop (0 : Nat) (rowAt (rowsOn x) (Int.toNat j))))
      (VC.br (asInt (List.getD (List.drop (0 : Nat) (rowAt (rowsOn x) (Int.toNat j))) (0 : Nat) D.nilp) != (2 : Int))
       (VC.need ((0 : Int) ≤ j ∧ j < (↑(List.length (rowsOn x)) : Int) ∧ List.length (rowAt (rowsOn x) (Int.toNat j)) = (4 : Nat))
       (VC.need (okSh [Kd.int IntKind.i64] (List.drop (2 : Nat) (rowAt (rowsOn x) (Int.toNat j))))
       (VC.br (asInt (List.getD (List.drop (2 : Nat) (rowAt (rowsOn x) (Int.toNat j))) (0 : Nat) D.nilp) != (0 : Int))
        (VC.ret (some (RR.c (Rc.d (D.bool false)))))
        (VC.need ((0 : Int) ≤ j ∧ j < (↑(List.length (rowsOn x)) : Int) ∧ List.length (rowAt (rowsOn x) (Int.toNat j)) = (4 : Nat))
        (VC.need (okSh [Kd.int IntKind.i64] (List.drop (3 : Nat) (rowAt (rowsOn x) (Int.toNat j))))
        (VC.need ((0 : Int) ≤ j ∧ j < (↑(List.length (rowsOn x)) : Int) ∧ List.length (rowAt (rowsOn x) (Int.toNat j)) = (4 : Nat))
        (VC.need (okSh [Kd.str] (List.drop (1 : Nat) (rowAt (rowsOn x) (Int.toNat j))))
        (FnA.at_ a_lBlk 2 (F_b2 x y (IntKind.wrap IntKind.i64 (IntKind.wrap IntKind.i64 (asInt (List.getD (List.drop (3 : Nat) (rowAt (rowsOn x) (Int.toNat j))) (0 : Nat) D.nilp) + (↑(ByteArray.size (asStr (List.getD (List.drop (1 : Nat) (rowAt (rowsOn x) (Int.toNat j))) (0 : Nat) D.nilp))) : Int)) - (1 : Int))) n (IntKind.wrap IntKind.i64 (j + (1 : Int))))))))))))
       (VC.need ((0 : Int) ≤ j ∧ j < (↑(List.length (rowsOn x)) : Int) ∧ List.length (rowAt (rowsOn x) (Int.toNat j)) = (4 : Nat))
       (VC.need (okSh [Kd.int IntKind.i64] (List.drop (3 : Nat) (rowAt (rowsOn x) (Int.toNat j))))
       (VC.need ((0 : Int) ≤ j ∧ j < (↑(List.length (rowsOn x)) : Int) ∧ List.length (rowAt (rowsOn x) (Int.toNat j)) = (4 : Nat))
       (VC.need (okSh [Kd.str] (List.drop (1 : Nat) (rowAt (rowsOn x) (Int.toNat j))))
       (FnA.at_ a_lBlk 2 (F_b2 x y (IntKind.wrap IntKind.i64 (IntKind.wrap IntKind.i64 (asInt (List.getD (List.drop (3 : Nat) (rowAt (rowsOn x) (Int.toNat j))) (0 : Nat) D.nilp) + (↑(ByteArray.size (asStr (List.getD (List.drop (1 : Nat) (rowAt (rowsOn x) (Int.toNat j))) (0 : Nat) D.nilp))) : Int)) - (1 : Int))) n (IntKind.wrap IntKind.i64 (j + (1 : Int)))))))))))))))))))))))))))))))))
 (VC.need (PreOk c_awake4 PUnit.unit [])
 (VC.ret (some (RR.c (Rc.d (D.bool true))))))) := by kernel_rfl
theorem bl_or' {v : Int} (h : isBl v = true) : v = 32 ∨ v = 9 := by
  unfold isBl at h
  simp only [Bool.or_eq_true, beq_iff_eq] at h
  exact h
theorem tk_ok (x : List Tok) (k : Int) (h0 : 0 ≤ k) (h : k < x.length) : 0 ≤ k ∧ k < (x.length : Int) ∧ (rowAt (rowsOn x) k.toNat).length = 4 := idx_ok x k 4 rfl h0 h
theorem nameL_app {M l l' : List Rn} (hl : nameL l' = 0) : nameL (M ++ l) = M.length → nameL (M ++ l') = M.length := by
  induction M with
  | nil => intro _; exact hl
  | cons d M ih =>
    intro h
    rw [List.cons_append, nameL_cons] at h ⊢
    split at h
    · rename_i hd
      rw [if_pos hd, ih (by simp only [List.length_cons] at h; omega)]
      rfl
    · simp only [List.length_cons] at h; omega
theorem digF_zero (l : List Rn) (m : Nat) (v : Int) (h : (digF l m v).2 = 0) : (digF l m v).1 = v := by
  cases l with
  | nil => cases m <;> rfl
  | cons c l =>
    cases m with
    | zero => rfl
    | succ m =>
      unfold digF at h ⊢
      split at h
      · cases h
      · rename_i hd; rw [if_neg hd]
theorem digF_app {l l' : List Rn} (hl : ∀ m v, digF l' m v = (v, 0)) : ∀ (M : List Rn) (m : Nat) (v n : Int), digF (M ++ l) m v = (n, M.length) → digF (M ++ l') m v = (n, M.length)
  | [], m, v, n, h => by
    have h : digF l m v = (n, 0) := h
    have := digF_zero l m v (by rw [h])
    rw [h] at this
    have e : v = n := this.symm
    show digF l' m v = _
    rw [hl, e]; rfl
  | d :: M, 0, v, n, h => by
    have h : (v, 0) = (n, M.length + 1) := h
    simp at h
  | d :: M, m + 1, v, n, h => by
    rw [List.cons_append] at h ⊢
    unfold digF at h ⊢
    split at h
    · rename_i hd
      simp only [Prod.mk.injEq, List.length_cons, Nat.add_right_cancel_iff] at h
      have ih := digF_app hl M m (10 * v + (d.v - 48)) n (by rw [← h.1, ← h.2])
      rw [if_pos hd, ih]
      rfl
    · simp at h
def tokAt (t : Tok) (a : Int) : Tok := ⟨t.kind, t.text, t.n, a⟩
theorem signL_head {c : Rn} {l : List Rn} {a : Int} {t : Tok} {k : Nat} (h : signL (c :: l) a = some (t, k)) : ¬ c.v = 59 ∧ ¬ isBl c.v = true := by
  unfold signL at h
  dsimp only at h
  have key : isLet c.v = true ∨ isDig c.v = true ∨ isSig c.v = true := by
    split at h
    · rename_i h1; exact .inl h1
    · split at h
      · rename_i h1; exact .inr (.inl h1)
      · split at h
        · rename_i h1; exact .inr (.inr h1)
        · cases h
  rw [isLet_iff, isDig_iff] at key
  unfold isSig at key
  unfold isBl
  simp only [Bool.or_eq_true, beq_iff_eq] at key ⊢
  omega
/-- A sign is read again behind which a blank stands. -/
theorem relex {M l l' : List Rn} {a a' : Int} {t : Tok} (hM : M ≠ []) (h : signL (M ++ l) a = some (t, M.length)) (hl : ∃ c R', l' = c :: R' ∧ isBl c.v = true) : signL (M ++ l') a' = some (tokAt t a', M.length) := by
  obtain ⟨b, R', rfl, hb⟩ := hl
  have hbd : ¬ isDig b.v = true := by
    rw [isDig_iff]
    have := bl_or' hb
    omega
  have hbn : ¬ isNm b.v = true := by
    unfold isNm
    rw [Bool.or_eq_true, isLet_iff, isDig_iff]
    have := bl_or' hb
    omega
  have n0 : nameL (b :: R') = 0 := by rw [nameL_cons, if_neg hbn]
  have d0 : ∀ m v, digF (b :: R') m v = (v, 0) := fun m v => digF_stop hbd _ _ _
  cases M with
  | nil => exact absurd rfl hM
  | cons c M =>
    have tk : ∀ X : List Rn, (c :: (M ++ X)).take (M.length + 1) = c :: M := fun X => by
      rw [List.take_succ_cons, List.take_left' rfl]
    rw [List.cons_append] at h ⊢
    unfold signL at h ⊢
    dsimp only at h ⊢
    split at h
    · rename_i hc
      rw [if_pos hc]
      simp only [Option.some.injEq, Prod.mk.injEq, List.length_cons] at h
      obtain ⟨rfl, h2⟩ := h
      have h3 : nameL (c :: (M ++ b :: R')) = M.length + 1 := nameL_app (M := c :: M) n0 h2
      rw [h3, h2, tk, tk]
      rfl
    · rename_i hc
      rw [if_neg hc]
      split at h
      · rename_i hd
        rw [if_pos hd]
        cases hn : numL (c :: (M ++ l)) 5 with
        | none => rw [hn] at h; cases h
        | some p =>
          obtain ⟨n, k⟩ := p
          rw [hn] at h
          simp only [Option.some.injEq, Prod.mk.injEq, List.length_cons] at h
          obtain ⟨rfl, rfl⟩ := h
          have h4 : numL (c :: (M ++ b :: R')) 5 = some (n, M.length + 1) := by
            unfold numL at hn ⊢
            dsimp only at hn ⊢
            rw [if_pos hd] at hn ⊢
            split at hn
            · rename_i h48
              simp only [Option.some.injEq, Prod.mk.injEq] at hn
              rw [if_pos h48, ← hn.1, ← hn.2]
            · rename_i h48
              simp only [Option.some.injEq] at hn
              rw [if_neg h48]
              exact congrArg some (digF_app d0 (c :: M) 5 0 n hn)
          rw [h4]
          dsimp only
          rw [tk, tk]
          rfl
      · rename_i hd
        rw [if_neg hd]
        split at h
        · rename_i hs
          rw [if_pos hs]
          simp only [Option.some.injEq, Prod.mk.injEq] at h
          obtain ⟨rfl, h2⟩ := h
          rw [← h2]
          rfl
        · cases h
theorem relex_line {M l l' : List Rn} {a a' : Int} {t : Tok} (hM : M ≠ []) (h : signL (M ++ l) a = some (t, M.length)) (hl : ∃ c R', l' = c :: R' ∧ isBl c.v = true) : lineA (M ++ l') a' = joinL [tokAt t a'] (lineA l' (a' + M.length)) := by
  have hs := relex (a' := a') hM h hl
  obtain ⟨b, R', rfl, hb⟩ := hl
  have ha : aloneL (b :: R') = true := by
    show (!isNm b.v) = true
    have : isNm b.v = false := by
      rw [← Bool.not_eq_true]
      unfold isNm
      rw [Bool.or_eq_true, isLet_iff, isDig_iff]
      have := bl_or' hb
      omega
    rw [this]; rfl
  have hd : (M ++ b :: R').drop M.length = b :: R' := List.drop_left' rfl
  cases M with
  | nil => exact absurd rfl hM
  | cons c M =>
    rw [List.cons_append] at hs hd ⊢
    obtain ⟨h1, h2⟩ := signL_head hs
    rw [lineA_cons, if_neg h1, if_neg h2, hs]
    dsimp only
    rw [hd, ha, if_neg (fun q => by cases q.2), ← joinL_cons, joinL_nil _ (lineA_bad' _ _)]
def strip (t : Tok) : Int × ByteArray × Int := (t.kind, t.text, t.n)
def Built (T : List Rn) (xs : List Tok) : Prop := ∀ (R : List Rn) (a : Int), (∃ c R', R = c :: R' ∧ isBl c.v = true) → ∃ ys : List Tok, ys.map strip = xs.map strip ∧ lineA (T ++ R) a = joinL ys (lineA R (a + T.length))
theorem Built.nil : Built [] [] := fun R a _ => ⟨[], rfl, by simp [joinL_nil _ (lineA_bad' R a)]⟩
theorem Built.step {T B M l : List Rn} {xs : List Tok} {t : Tok} {a : Int} (h : Built T xs) (hB : ∀ c ∈ B, isBl c.v = true) (hB0 : B ≠ []) (hM : M ≠ []) (hs : signL (M ++ l) a = some (t, M.length)) : Built (T ++ B ++ M) (xs ++ [t]) := by
  intro R a' hR
  obtain ⟨ys, h1, h2⟩ := h (B ++ (M ++ R)) a' (by
    cases B with
    | nil => exact absurd rfl hB0
    | cons c B => exact ⟨c, _, rfl, hB c List.mem_cons_self⟩)
  refine ⟨ys ++ [tokAt t (a' + T.length + B.length)], ?_, ?_⟩
  · rw [List.map_append, List.map_append, h1]; rfl
  · rw [List.append_assoc, List.append_assoc, h2, lineA_blanks B _ _ hB, relex_line hM hs hR, joinL_joinL]
    congr 2
    simp only [List.length_append]
    omega
theorem strip_rd {x y : List Tok} (h : y.map strip = x.map strip) (j : Int) (h0 : 0 ≤ j) (hj : j < x.length) : j < y.length ∧ strip (rd y j) = strip (rd x j) := by
  have hl : y.length = x.length := by
    have := congrArg List.length h
    simpa using this
  have h1 : (y.map strip)[j.toNat]? = (x.map strip)[j.toNat]? := by rw [h]
  have ej : ((j.toNat : Nat) : Int) = j := by omega
  rw [List.getElem?_map, List.getElem?_map, List.getElem?_eq_getElem (by omega), List.getElem?_eq_getElem (by omega)] at h1
  simp only [Option.map_some, Option.some.injEq] at h1
  have a1 := rd_lt y j.toNat (by omega)
  have a2 := rd_lt x j.toNat (by omega)
  rw [ej] at a1 a2
  rw [a1, a2]
  exact ⟨by omega, h1⟩
theorem end_runes : ∃ X, runesS ⟨#[9, 59, 32, 255, 32, 48, 49]⟩ = ⟨9⟩ :: ⟨59⟩ :: X := by
  rw [runesS_B]
  exact ⟨_, by
    show runesB [9, 59, 32, 255, 32, 48, 49] = _
    rw [runesB_ascii 9 _ (by decide), runesB_ascii 59 _ (by decide)]
    rfl⟩
theorem l_lBl2 (x y : List Tok) (hx : x.length ≤ 1000) (hy : y.map strip = x.map strip) : ∀ i_ : Int × Int, (fun (v : Int × Int) => 0 ≤ v.2 ∧ v.2 ≤ x.length ∧ ∃ (a : Int) (l : List Rn), 0 ≤ a ∧ a + l.length ≤ 1000 ∧ v.1 < a ∧ Chain l a (x.drop v.2.toNat)) i_ → (a_lBlk.at_ 2 ((fun (v : Int × Int) => F_b2 x y v.1 x.length v.2) i_)).holds s_lBlk.cx a_lBlk.rs (fun q => q.le (rb true)) := by
  refine loop_rule (a := a_lBlk) (j := 2) (m := 400) s_lBlk_sound (fun (v : Int × Int) => F_b2 x y v.1 x.length v.2) (fun (v : Int × Int) => 0 ≤ v.2 ∧ v.2 ≤ x.length ∧ ∃ (a : Int) (l : List Rn), 0 ≤ a ∧ a + l.length ≤ 1000 ∧ v.1 < a ∧ Chain l a (x.drop v.2.toNat)) (fun (v : Int × Int) => ((x.length : Int) - v.2).toNat) ?_
  rintro ⟨last, j⟩ h_inv ih
  try dsimp only at h_inv
  replace ih := fun (v0 : Int) (v1 : Int) => ih (v0, v1)
  try dsimp only at ih
  show VC.holds _ _ _ (a_lBlk.round s_lBlk 400 2 (F_b2 x y last x.length j))
  rw [t_lBl2]
  try simp only [asRows_sl, asInt_int, asBool_bool, asStr_str, listOf_rowsOn, List.drop_zero, Prg.eta, Sta.eta, rowsOn_length, getD_drop, Nat.reduceAdd, rd_int, rd_PMem_name, rd_PMem_secret, rd_PMem_n, rd_PLabel_name, rd_PLabel_at_, rd_Ins_kind, rd_Ins_op, rd_Ins_d, rd_Ins_aR, rd_Ins_aN, rd_Ins_bR, rd_Ins_bN, rd_Ins_name, rd_Ins_target, rd_Ent_pc, rd_Ent_val, rd_Ent_addr, rd_Ent_fro, rd_Ent_next, rd_Ent_done, rd_Ent_known, rd_Ent_fault, rd_Place_reg, rd_Place_n, rd_Place_secret, rd_Obs_kind, rd_Obs_at_, rd_Dir_kind, rd_Dir_n, rd_Rn_v, rd_Tok_kind, rd_Tok_text, rd_Tok_n, rd_Tok_at_]
  obtain ⟨h1, h2, a, l, ha0, hal, hla, h3⟩ := h_inv
  refine br_dec (fun hd => ?_) (fun _ => ⟨PreOk.mk trivial rfl, ret_le (RR.le_refl _)⟩)
  rw [drop_rd x j h1 hd] at h3
  generalize hts : rd x j :: x.drop (j + 1).toNat = ts at h3
  obtain ⟨yl, hst⟩ := strip_rd hy j h1 hd
  unfold strip at hst
  simp only [Prod.mk.injEq] at hst
  obtain ⟨s1, s2, s3⟩ := hst
  have gx := tk_ok x j h1 hd
  have gy := tk_ok y j h1 yl
  cases h3 with
  | done => cases hts
  | tok B M l' a t ts hB hat hM ht hasc hv hn hs hal2 h =>
    simp only [List.cons.injEq] at hts
    obtain ⟨e1, e2⟩ := hts
    subst e1
    have hsz : (rd x j).text.size = M.length := by rw [ht]; exact (txt_asc hasc).size
    have hM0 : M.length ≠ 0 := fun e => hM (List.eq_nil_of_length_eq_zero e)
    simp only [List.length_append] at hal
    have nxt : (a_lBlk.at_ 2 (F_b2 x y (IntKind.wrap .i64 (IntKind.wrap .i64 ((rd x j).at_ + ((rd x j).text.size : Int)) - 1)) x.length (IntKind.wrap .i64 (j + 1)))).holds s_lBlk.cx a_lBlk.rs fun q => q.le (rb true) := by
      rw [hat, hsz, wrap_small (a + B.length + M.length) (by omega) (by omega), wrap_small (a + B.length + M.length - 1) (by omega) (by omega), wrap_small (j + 1) (by omega) (by omega)]
      exact ih _ _ ⟨by omega, by omega, a + B.length + M.length, l', by omega, by omega, by omega, by rw [e2]; exact h⟩ (by omega)
    refine ⟨gy, okSh_ok _ y j (fun _ => rfl) h1 yl, gx, okSh_ok _ x j (fun _ => rfl) h1 hd, br_bne (fun q => absurd s1 q) (fun _ => ⟨gy, okSh_okD _ 1 y j (fun _ => rfl) h1 yl, gx, okSh_okD _ 1 x j (fun _ => rfl) h1 hd, br_not (br_beq (fun _ => ⟨gy, okSh_okD _ 2 y j (fun _ => rfl) h1 yl, gx, okSh_okD _ 2 x j (fun _ => rfl) h1 hd, br_bne (fun q => absurd s3 q) (fun _ => ⟨gx, okSh_okD _ 3 x j (fun _ => rfl) h1 hd, br_dec (fun q => absurd q (by omega)) (fun _ => ⟨gx, okSh_okD _ 1 x j (fun _ => rfl) h1 hd, br_beq (fun q => absurd q (by omega)) (fun _ => ⟨gx, okSh_ok _ x j (fun _ => rfl) h1 hd, br_bne (fun q => ?_) (fun _ => ⟨gx, okSh_okD _ 3 x j (fun _ => rfl) h1 hd, gx, okSh_okD _ 1 x j (fun _ => rfl) h1 hd, nxt⟩)⟩)⟩)⟩)⟩) (fun q => absurd (by rw [s2]) q))⟩)⟩
    exact ⟨gx, okSh_okD _ 2 x j (fun _ => rfl) h1 hd, br_bne (fun q2 => absurd (hn q) q2) (fun _ => ⟨gx, okSh_okD _ 3 x j (fun _ => rfl) h1 hd, gx, okSh_okD _ 1 x j (fun _ => rfl) h1 hd, nxt⟩)⟩
theorem l_lBl1 (w : Int) (x : List Tok) (i n j : Int) (T : List Rn) (P : RR → Prop) (hi : 0 ≤ i ∧ i < x.length) (hj : 0 ≤ j ∧ j ≤ 1000) (hsz : T.length + (rd x i).text.size ≤ 2000) (K : ∀ (s : ByteArray) (B : List Rn), Asc s (T ++ B) → (∀ c ∈ B, isBl c.v = true) → B ≠ [] → B.length ≤ 4 → (a_lBlk.at_ 0 (F_b0 w x (s ++ (rd x i).text) n (j + 1))).holds s_lBlk.cx a_lBlk.rs P) : ∀ i_ : ByteArray × Int, (fun (v : ByteArray × Int) => ∃ B : List Rn, Asc v.1 (T ++ B) ∧ (∀ c ∈ B, isBl c.v = true) ∧ B.length = v.2 ∧ v.2 ≤ 4) i_ → (a_lBlk.at_ 1 ((fun (v : ByteArray × Int) => F_b1 w x v.1 i v.2 n j) i_)).holds s_lBlk.cx a_lBlk.rs (P) := by
  refine loop_rule (a := a_lBlk) (j := 1) (m := 400) s_lBlk_sound (fun (v : ByteArray × Int) => F_b1 w x v.1 i v.2 n j) (fun (v : ByteArray × Int) => ∃ B : List Rn, Asc v.1 (T ++ B) ∧ (∀ c ∈ B, isBl c.v = true) ∧ B.length = v.2 ∧ v.2 ≤ 4) (fun (v : ByteArray × Int) => (4 - v.2).toNat) ?_
  rintro ⟨s, k⟩ h_inv ih
  try dsimp only at h_inv
  replace ih := fun (v0 : ByteArray) (v1 : Int) => ih (v0, v1)
  try dsimp only at ih
  show VC.holds _ _ _ (a_lBlk.round s_lBlk 400 1 (F_b1 w x s i k n j))
  rw [t_lBl1]
  try simp only [asRows_sl, asInt_int, asBool_bool, asStr_str, listOf_rowsOn, List.drop_zero, Prg.eta, Sta.eta, rowsOn_length, getD_drop, Nat.reduceAdd, rd_int, rd_PMem_name, rd_PMem_secret, rd_PMem_n, rd_PLabel_name, rd_PLabel_at_, rd_Ins_kind, rd_Ins_op, rd_Ins_d, rd_Ins_aR, rd_Ins_aN, rd_Ins_bR, rd_Ins_bN, rd_Ins_name, rd_Ins_target, rd_Ent_pc, rd_Ent_val, rd_Ent_addr, rd_Ent_fro, rd_Ent_next, rd_Ent_done, rd_Ent_known, rd_Ent_fault, rd_Place_reg, rd_Place_n, rd_Place_secret, rd_Obs_kind, rd_Obs_at_, rd_Dir_kind, rd_Dir_n, rd_Rn_v, rd_Tok_kind, rd_Tok_text, rd_Tok_n, rd_Tok_at_]
  obtain ⟨B, hs, hB, hk, hk4⟩ := h_inv
  have hss := hs.size
  rw [List.length_append] at hss
  have a31 : bits .and .i64 i 31 = i % 32 := and_mask i 5 (by decide)
  have wu : 0 ≤ IntKind.wrap .u64 (bits .and .i64 i 31) := by
    rw [a31, IntKind.wrap_u64]
    omega
  generalize hq : bits .and .i64 (Int.fdiv w (2 ^ min (Int.toNat (IntKind.wrap .u64 (bits .and .i64 i 31))) 64)) 3 = q
  have hq2 : 0 ≤ q ∧ q ≤ 3 := by
    rw [← hq]
    have := and_mask (Int.fdiv w (2 ^ min (Int.toNat (IntKind.wrap .u64 (bits .and .i64 i 31))) 64)) 2 (by decide)
    have e : bits .and .i64 (Int.fdiv w (2 ^ min (Int.toNat (IntKind.wrap .u64 (bits .and .i64 i 31))) 64)) 3 = Int.fdiv w (2 ^ min (Int.toNat (IntKind.wrap .u64 (bits .and .i64 i 31))) 64) % 4 := this
    rw [e]
    omega
  refine ⟨wu, br_dec (fun hd => ?_) (fun hd => ?_)⟩
  · rw [wrap_small (k + 1) (by omega) (by omega)]
    refine ⟨by omega, ih _ _ ⟨B ++ [⟨32⟩], ?_, fun c hc => ?_, by rw [List.length_append, List.length_singleton]; omega, by omega⟩ (by omega)⟩
    · have := hs.app (t := ⟨#[32]⟩) (M := [⟨32⟩]) ⟨by decide, by decide⟩
      rwa [List.append_assoc] at this
    · rcases List.mem_append.1 hc with h | h
      · exact hB c h
      · rw [List.mem_singleton.1 h]; decide
  · rw [wrap_small (j + 1) (by omega) (by omega)]
    exact ⟨tk_ok x i hi.1 hi.2, okSh_okD _ 1 x i (fun _ => rfl) hi.1 hi.2, by omega, K s B hs hB (fun e => by rw [e] at hk; simp at hk; omega) (by omega)⟩
theorem l_lBl0 (w : Int) (x : List Tok) (l0 : List Rn) (hx : x.length ≤ 1000) (hl0 : l0.length ≤ 200) (hc0 : Chain l0 0 x) : ∀ i_ : ByteArray × Int, (fun (v : ByteArray × Int) => 0 ≤ v.2 ∧ v.2 ≤ x.length ∧ ∃ (T : List Rn) (a : Int) (l : List Rn), Asc v.1 T ∧ Built T (x.take v.2.toNat) ∧ T.length + 5 * l.length ≤ 1000 ∧ Chain l a (x.drop v.2.toNat)) i_ → (a_lBlk.at_ 0 ((fun (v : ByteArray × Int) => F_b0 w x v.1 x.length v.2) i_)).holds s_lBlk.cx a_lBlk.rs (fun q => q.le (rb true)) := by
  refine loop_rule (a := a_lBlk) (j := 0) (m := 400) s_lBlk_sound (fun (v : ByteArray × Int) => F_b0 w x v.1 x.length v.2) (fun (v : ByteArray × Int) => 0 ≤ v.2 ∧ v.2 ≤ x.length ∧ ∃ (T : List Rn) (a : Int) (l : List Rn), Asc v.1 T ∧ Built T (x.take v.2.toNat) ∧ T.length + 5 * l.length ≤ 1000 ∧ Chain l a (x.drop v.2.toNat)) (fun (v : ByteArray × Int) => ((x.length : Int) - v.2).toNat) ?_
  rintro ⟨s, j⟩ h_inv ih
  try dsimp only at h_inv
  replace ih := fun (v0 : ByteArray) (v1 : Int) => ih (v0, v1)
  try dsimp only at ih
  show VC.holds _ _ _ (a_lBlk.round s_lBlk 400 0 (F_b0 w x s x.length j))
  rw [t_lBl0]
  try simp only [asRows_sl, asInt_int, asBool_bool, asStr_str, listOf_rowsOn, List.drop_zero, Prg.eta, Sta.eta, rowsOn_length, getD_drop, Nat.reduceAdd, rd_int, rd_PMem_name, rd_PMem_secret, rd_PMem_n, rd_PLabel_name, rd_PLabel_at_, rd_Ins_kind, rd_Ins_op, rd_Ins_d, rd_Ins_aR, rd_Ins_aN, rd_Ins_bR, rd_Ins_bN, rd_Ins_name, rd_Ins_target, rd_Ent_pc, rd_Ent_val, rd_Ent_addr, rd_Ent_fro, rd_Ent_next, rd_Ent_done, rd_Ent_known, rd_Ent_fault, rd_Place_reg, rd_Place_n, rd_Place_secret, rd_Obs_kind, rd_Obs_at_, rd_Dir_kind, rd_Dir_n, rd_Rn_v, rd_Tok_kind, rd_Tok_text, rd_Tok_n, rd_Tok_at_]
  obtain ⟨h1, h2, T, a, l, hs, hbt, hsz, h3⟩ := h_inv
  have hss := hs.size
  refine br_dec (fun hd => ?_) (fun hd => ?_)
  · rw [drop_rd x j h1 hd] at h3
    generalize hts : rd x j :: x.drop (j + 1).toNat = ts at h3
    cases h3 with
    | done => cases hts
    | tok B M l' a t ts hB hat hM ht hasc hv hn hsg hal h =>
      simp only [List.cons.injEq] at hts
      obtain ⟨e1, e2⟩ := hts
      subst e1
      have hts : (rd x j).text.size = M.length := by rw [ht]; exact (txt_asc hasc).size
      have hM0 : M.length ≠ 0 := fun e => hM (List.eq_nil_of_length_eq_zero e)
      simp only [List.length_append] at hsz
      refine l_lBl1 w x j x.length j T _ ⟨h1, hd⟩ ⟨h1, by omega⟩ (by omega) (fun s' B' hs' hB' hB0 hB4 => ?_) (s, 0) ⟨[], by rw [List.append_nil]; exact hs, fun c hc => (by cases hc), rfl, by dsimp only; omega⟩
      refine ih _ _ ⟨by omega, by omega, T ++ B' ++ M, a + B.length + M.length, l', ?_, ?_, ?_, by rw [e2]; exact h⟩ (by omega)
      · rw [ht]; exact hs'.app (txt_asc hasc)
      · rw [take_rn x j h1 hd]; exact hbt.step hB' hB0 hM hsg
      · simp only [List.length_append]; omega
  · rw [List.take_of_length_le (by omega)] at hbt
    obtain ⟨X, hX⟩ := end_runes
    obtain ⟨ys, hy1, hy2⟩ := hbt (⟨9⟩ :: ⟨59⟩ :: X) 0 ⟨⟨9⟩, _, rfl, by decide⟩
    have hy3 : lineS (s ++ ⟨#[9, 59, 32, 255, 32, 48, 49]⟩) = (ys, 0, true) := by
      rw [lineS_A, hs.runes, hX, hy2, lineA_cons, if_neg (by decide), if_pos (by decide), lineA_cons, if_pos rfl]
      show (ys ++ [], (0 : Int), true) = _
      rw [List.append_nil]
    have hyl : ys.length = x.length := by
      have := congrArg List.length hy1
      simpa using this
    have z := ba_len s ⟨#[9, 59, 32, 255, 32, 48, 49]⟩
    have z2 : ByteArray.size ⟨#[9, 59, 32, 255, 32, 48, 49]⟩ = 7 := rfl
    refine ⟨by omega, PreOk.mk (by show (s ++ _).size ≤ 1000000; omega) rfl, all_holds fun y5 h5 => ?_⟩
    replace h5 : y5 = (ys, 0, true) := Eq.trans h5 hy3
    subst h5
    refine br_not (br_t rfl (br_bne (fun q => absurd (by dsimp only; omega) q) (fun _ => ?_)))
    exact l_lBl2 x ys hx hy1 (-1, 0) ⟨by dsimp only; omega, by dsimp only; omega, 0, l0, by omega, by omega, by dsimp only; omega, by simpa using hc0⟩
theorem c_lBlk_good : c_lBlk.fe.Good Try.prog := by
  refine FT.good c_lBlk ⟨Try.f9, by kernel_rfl, by decide +kernel, by kernel_rfl⟩ (fun ⟨l, w⟩ => by first | rfl | simp [c_lBlk, rrRef, rTok3, rLine, rR, riib3, ri, rb, rib, Sta.fresh]) fun ⟨l, w⟩ hp => ?_
  refine acalls_le s_lBlk_sound (fn := Try.f9) (a := a_lBlk) (nargs := 2) (tbl := [(7, [1, 6, 9, 34, 35]), (10, [1, 6, 9, 10, 11, 34, 35]), (20, [6, 12, 15, 75, 76])]) (by kernel_rfl) (by kernel_rfl) rfl (m := 400) ?_
  show VC.holds _ _ _ (a_lBlk.start s_lBlk 400 [al4 l, ai w])
  rw [t_lBlk]
  try simp only [asRows_sl, asInt_int, asBool_bool, asStr_str, listOf_rowsOn, List.drop_zero, Prg.eta, Sta.eta, rowsOn_length, getD_drop, Nat.reduceAdd, rd_int, rd_PMem_name, rd_PMem_secret, rd_PMem_n, rd_PLabel_name, rd_PLabel_at_, rd_Ins_kind, rd_Ins_op, rd_Ins_d, rd_Ins_aR, rd_Ins_aN, rd_Ins_bR, rd_Ins_bN, rd_Ins_name, rd_Ins_target, rd_Ent_pc, rd_Ent_val, rd_Ent_addr, rd_Ent_fro, rd_Ent_next, rd_Ent_done, rd_Ent_known, rd_Ent_fault, rd_Place_reg, rd_Place_n, rd_Place_secret, rd_Obs_kind, rd_Obs_at_, rd_Dir_kind, rd_Dir_n, rd_Rn_v, rd_Tok_kind, rd_Tok_text, rd_Tok_n, rd_Tok_at_]
  try simp only [c_lBlk] at hp
  refine ⟨PreOk.mk trivial rfl, all_holds fun s hs => ?_⟩
  have hs2 : s.size ≤ 200 := by rw [show s = textS l from hs]; exact (textS_spec l).1
  refine ⟨PreOk.mk (by show s.size ≤ 1000000; omega) rfl, all_holds fun y hy => ?_⟩
  replace hy : y = lineA (runesS s) 0 := hy
  have l1 := runesS_len s
  have l2 : y.1.length ≤ s.size := by rw [hy]; exact lineS_len s
  refine br_not (br_holds (fun hok => ?_) (fun hok => ?_))
  · have hc := chain_of _ (runesS s) 0 (Nat.le_refl _) (by rw [← hy]; exact hok)
    rw [← hy] at hc
    exact l_lBl0 w y.1 (runesS s) (by omega) (by omega) hc (_, 0) ⟨by dsimp only; omega, by dsimp only; omega, [], 0, runesS s, Asc.nil, by simpa using Built.nil, by simp only [List.length_nil]; omega, by simpa using hc⟩
  · have : y.1 = [] := by rw [hy]; exact lineA_bad' _ _ (by rw [← hy]; exact hok)
    rw [this]
    exact br_beq (fun _ => ⟨PreOk.mk trivial rfl, ret_le (RR.le_refl _)⟩) (fun q => absurd rfl q)
end Go.Proofs.Ytmhfhobaicklmaa.Ax
