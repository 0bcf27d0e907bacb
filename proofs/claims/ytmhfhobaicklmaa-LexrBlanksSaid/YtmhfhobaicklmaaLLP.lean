/- LexrPlaces: places are those of runes, not of bytes. -/
import Derived.Test.YtmhfhobaicklmaaLLT
import Derived.Test.YtmhfhobaicklmaaM3
namespace Go.Proofs.Ytmhfhobaicklmaa.Ax
open Go.RowKit
set_option linter.unusedVariables false
set_option linter.unusedSimpArgs false
def rdI3 : List A → Int × Int × Int
  | [.c (.int _ a), .c (.int _ b), .c (.int _ c)] => (a, b, c)
  | _ => (0, 0, 0)
def c_lPlc : FT (Int × Int × Int) := ⟨6, fun x => [ai x.1, ai x.2.1, ai x.2.2], rdI3, fun _ => True, fun _ => rb true, false, fun x => by simp [ai, rdI3]⟩
noncomputable def a_lPlc : FnA := (fnA Try.prog Try.f6 3 [(4, [0, 1, 2, 7, 8]), (8, [0, 1, 2, 7, 9]), (18, [0, 10, 99, 100])]).getD ⟨0, .skip, [], []⟩
noncomputable def s_lPlc : Sp := spT [c_awake4.fe, c_lLine.gfe v_lLine sh_lLine e_lLine]
theorem s_lPlc_sound : s_lPlc.sound Try.prog := spT_sound fun e he => by
  simp only [List.mem_cons, List.not_mem_nil, or_false] at he
  rcases he with rfl | rfl
  · exact c_awake4_good
  · exact FT.gfe_good c_lLine_good
def F_p0 (b n w : Int) (s : ByteArray) (i : Int) : St := ⟨mkS 133 [(0, vi b), (1, vi n), (2, vi w), (7, vt s), (8, vi i)], []⟩
def F_p1 (b n w : Int) (s : ByteArray) (i : Int) : St := ⟨mkS 133 [(0, vi b), (1, vi n), (2, vi w), (7, vt s), (9, vi i)], []⟩
def F_p2 (b : Int) (l : List Tok) (n i : Int) : St := ⟨mkS 133 [(0, vi b), (10, vr (rowsOn l)), (99, vi n), (100, vi i)], []⟩
set_option maxRecDepth 100000 in
theorem t_lPlc (b n w : Int) : a_lPlc.start s_lPlc 400 [ai b, ai n, ai w] =
(FnA.at_ a_lPlc 0 (F_p0 (bits BinOp.and IntKind.i64 b (15 : Int)) (bits BinOp.and IntKind.i64 n (7 : Int)) w { data := #[] } (0 : Int))) := by kernel_rfl
set_option maxRecDepth 100000 in
theorem t_lPl0 (b n w : Int) (s : ByteArray) (i : Int) : a_lPlc.round s_lPlc 400 0 (F_p0 b n w s i) =
(VC.br (decide (i < b))
 (VC.need ((0 : Int) ≤ bits BinOp.and IntKind.i64 i (1 : Int) ∧ bits BinOp.and IntKind.i64 i (1 : Int) < (2 : Int))
 (VC.need (Int.toNat (bits BinOp.and IntKind.i64 i (1 : Int)) < (2 : Nat) ∧ List.length (rowAt [[D.str { data := #[(32 : UInt8)] }], [D.str { data := #[(9 : UInt8)] }]] (Int.toNat (bits BinOp.and IntKind.i64 i (1 : Int)))) = (1 : Nat) ∧ okSh [Kd.str] (List.drop (0 : Nat) (rowAt [[D.str { data := #[(32 : UInt8)] }], [D.str { data := #[(9 : UInt8)] }]] (Int.toNat (bits BinOp.and IntKind.i64 i (1 : Int))))))
 (VC.need (ByteArray.size s + ByteArray.size (asStr (List.getD (List.drop (0 : Nat) (rowAt [[D.str { data := #[(32 : UInt8)] }], [D.str { data := #[(9 : UInt8)] }]] (Int.toNat (bits BinOp.and IntKind.i64 i (1 : Int))))) (0 : Nat) D.nilp)) ≤ (9223372036854775807 : Nat))
 (FnA.at_ a_lPlc 0 (F_p0 b n w (s ++ asStr (List.getD (List.drop (0 : Nat) (rowAt [[D.str { data := #[(32 : UInt8)] }], [D.str { data := #[(9 : UInt8)] }]] (Int.toNat (bits BinOp.and IntKind.i64 i (1 : Int))))) (0 : Nat) D.nilp)) (IntKind.wrap IntKind.i64 (i + (1 : Int))))))))
 (FnA.at_ a_lPlc 1 (F_p1 b n w s (0 : Int)))) := by kernel_rfl
set_option maxRecDepth 100000 in
theorem t_lPl1 (b n w : Int) (s : ByteArray) (i : Int) : a_lPlc.round s_lPlc 400 1 (F_p1 b n w s i) =
(VC.br (decide (i < n))
 (VC.need (ByteArray.size s + (3 : Nat) ≤ (9223372036854775807 : Nat))
 (FnA.at_ a_lPlc 1 (F_p1 b n w (s ++ { data := #[(97 : UInt8), (98 : UInt8), (44 : UInt8)] }) (IntKind.wrap IntKind.i64 (i + (1 : Int))))))
 (VC.need (PreOk c_lLine (s, ()) [A.c (D.str s)])
 (VC.all (v_lLine (s, ())) fun (y5 : List Tok × Int × Bool) =>
 (VC.need ((6 : Int) ≠ (0 : Int))
 (VC.need ((0 : Int) ≤ Int.tmod (bits BinOp.and IntKind.i64 w (255 : Int)) (6 : Int) ∧ Int.tmod (bits BinOp.and IntKind.i64 w (255 : Int)) (6 : Int) < (6 : Int))
 (VC.need (Int.toNat (Int.tmod (bits BinOp.and IntKind.i64 w (255 : Int)) (6 : Int)) < (6 : Nat) ∧ List.length (rowAt [[D.str { data := #[(195 : UInt8), (169 : UInt8)] }], [D.str { data := #[(255 : UInt8)] }], [D.str { data := #[(240 : UInt8), (157 : UInt8), (132 : UInt8), (158 : UInt8)] }], [D.str { data := #[(33 : UInt8)] }], [D.str { data := #[(0 : UInt8)] }], [D.str { data := #[(90 : UInt8)] }]] (Int.toNat (Int.tmod (bits BinOp.and IntKind.i64 w (255 : Int)) (6 : Int)))) = (1 : Nat) ∧ okSh [Kd.str] (List.drop (0 : Nat) (rowAt [[D.str { data := #[(195 : UInt8), (169 : UInt8)] }], [D.str { data := #[(255 : UInt8)] }], [D.str { data := #[(240 : UInt8), (157 : UInt8), (132 : UInt8), (158 : UInt8)] }], [D.str { data := #[(33 : UInt8)] }], [D.str { data := #[(0 : UInt8)] }], [D.str { data := #[(90 : UInt8)] }]] (Int.toNat (Int.tmod (bits BinOp.and IntKind.i64 w (255 : Int)) (6 : Int))))))
 (VC.need (ByteArray.size s + ByteArray.size (asStr (List.getD (List.drop (0 : Nat) (rowAt [[D.str { data := #[(195 : UInt8), (169 : UInt8)] }], [D.str { data := #[(255 : UInt8)] }], [D.str { data := #[(240 : UInt8), (157 : UInt8), (132 : UInt8), (158 : UInt8)] }], [D.str { data := #[(33 : UInt8)] }], [D.str { data := #[(0 : UInt8)] }], [D.str { data := #[(90 : UInt8)] }]] (Int.toNat (Int.tmod (bits BinOp.and IntKind.i64 w (255 : Int)) (6 : Int))))) (0 : Nat) D.nilp)) ≤ (9223372036854775807 : Nat))
 (VC.need (ByteArray.size (s ++ asStr (List.getD (List.drop (0 : Nat) (rowAt [[D.str { data := #[(195 : UInt8), (169 : UInt8)] }], [D.str { data := #[(255 : UInt8)] }], [D.str { data := #[(240 : UInt8), (157 : UInt8), (132 : UInt8), (158 : UInt8)] }], [D.str { data := #[(33 : UInt8)] }], [D.str { data := #[(0 : UInt8)] }], [D.str { data := #[(90 : UInt8)] }]] (Int.toNat (Int.tmod (bits BinOp.and IntKind.i64 w (255 : Int)) (6 : Int))))) (0 : Nat) D.nilp)) + (2 : Nat) ≤ (9223372036854775807 : Nat))
 (VC.need (PreOk c_lLine (s ++ asStr (List.getD (List.drop (0 : Nat) (rowAt [[D.str { data := #[(195 : UInt8), (169 : UInt8)] }], [D.str { data := #[(255 : UInt8)] }], [D.str { data := #[(240 : UInt8), (157 : UInt8), (132 : UInt8), (158 : UInt8)] }], [D.str { data := #[(33 : UInt8)] }], [D.str { data := #[(0 : UInt8)] }], [D.str { data := #[(90 : UInt8)] }]] (Int.toNat (Int.tmod (bits BinOp.and IntKind.i64 w (255 : Int)) (6 : Int))))) (0 : Nat) D.nilp) ++ { data := #[(195 : UInt8), (169 : UInt8)] }, ()) [A.c (D.str (s ++ asStr (List.getD (List.drop (0 : Nat) (rowAt [[D.str { data := #[(195 : UInt8), (169 : UInt8)] }], [D.str { data := #[(255 : UInt8)] }], [D.str { data := #[(240 : UInt8), (157 : UInt8), (132 : UInt8), (158 : UInt8)] }], [D.str { data := #[(33 : UInt8)] }], [D.str { data := #[(0 : UInt8)] }], [D.str { data := #[(90 : UInt8)] }]] (Int.toNat (Int.tmod (bits BinOp.and IntKind.i64 w (255 : Int)) (6 : Int))))) (0 : Nat) D.nilp) ++ { data := #[(195 : UInt8), (169 : UInt8)] }))])
 (VC.all (v_lLine (s ++ asStr (List.getD (List.drop (0 : Nat) (rowAt [[D.str { data := #[(195 : UInt8), (169 : UInt8)] }], [D.str { data := #[(255 : UInt8)] }], [D.str { data := #[(240 : UInt8), (157 : UInt8), (132 : UInt8), (158 : UInt8)] }], [D.str { data := #[(33 : UInt8)] }], [D.str { data := #[(0 : UInt8)] }], [D.str { data := #[(90 : UInt8)] }]] (Int.toNat (Int.tmod (bits BinOp.and IntKind.i64 w (255 : Int)) (6 : Int))))) (0 : Nat) D.nilp) ++ { data := #[(195 : UInt8), (169 : UInt8)] }, ())) fun (y6 : List Tok × Int × Bool) =>
 (VC.need (ByteArray.size s + (1 : Nat) ≤ (9223372036854775807 : Nat))
 (VC.need (ByteArray.size (s ++ { data := #[(59 : UInt8)] }) + ByteArray.size (asStr (List.getD (List.drop (0 : Nat) (rowAt [[D.str { data := #[(195 : UInt8), (169 : UInt8)] }], [D.str { data := #[(255 : UInt8)] }], [D.str { data := #[(240 : UInt8), (157 : UInt8), (132 : UInt8), (158 : UInt8)] }], [D.str { data := #[(33 : UInt8)] }], [D.str { data := #[(0 : UInt8)] }], [D.str { data := #[(90 : UInt8)] }]] (Int.toNat (Int.tmod (bits BinOp.and IntKind.i64 w (255 : Int)) (6 : Int))))) (0 : Nat) D.nilp)) ≤ (9223372036854775807 : Nat))
 (VC.need (PreOk c_lLine (s ++ { data := #[(59 : UInt8)] } ++ asStr (List.getD (List.drop (0 : Nat) (rowAt [[D.str { data := #[(195 : UInt8), (169 : UInt8)] }], [D.str { data := #[(255 : UInt8)] }], [D.str { data := #[(240 : UInt8), (157 : UInt8), (132 : UInt8), (158 : UInt8)] }], [D.str { data := #[(33 : UInt8)] }], [D.str { data := #[(0 : UInt8)] }], [D.str { data := #[(90 : UInt8)] }]] (Int.toNat (Int.tmod (bits BinOp.and IntKind.i64 w (255 : Int)) (6 : Int))))) (0 : Nat) D.nilp), ()) [A.c (D.str (s ++ { data := #[(59 : UInt8)] } ++ asStr (List.getD (List.drop (0 : Nat) (rowAt [[D.str { data := #[(195 : UInt8), (169 : UInt8)] }], [D.str { data := #[(255 : UInt8)] }], [D.str { data := #[(240 : UInt8), (157 : UInt8), (132 : UInt8), (158 : UInt8)] }], [D.str { data := #[(33 : UInt8)] }], [D.str { data := #[(0 : UInt8)] }], [D.str { data := #[(90 : UInt8)] }]] (Int.toNat (Int.tmod (bits BinOp.and IntKind.i64 w (255 : Int)) (6 : Int))))) (0 : Nat) D.nilp)))])
 (VC.all (v_lLine (s ++ { data := #[(59 : UInt8)] } ++ asStr (List.getD (List.drop (0 : Nat) (rowAt [[D.str { data := #[(195 : UInt8), (169 : UInt8)] }], [D.str { data := #[(255 : UInt8)] }], [D.str { data := #[(240 : UInt8), (157 : UInt8), (132 : UInt8), (158 : UInt8)] }], [D.str { data := #[(33 : UInt8)] }], [D.str { data := #[(0 : UInt8)] }], [D.str { data := #[(90 : UInt8)] }]] (Int.toNat (Int.tmod (bits BinOp.and IntKind.i64 w (255 : Int)) (6 : Int))))) (0 : Nat) D.nilp), ())) fun (y7 : List Tok × Int × Bool) =>
 (VC.br (!y5.snd.snd)
  (VC.ret (some (RR.c (Rc.d (D.bool false)))))
  (VC.br ((↑(List.length (rowsOn y5.fst)) : Int) != IntKind.wrap IntKind.i64 ((2 : Int) * n))
   (VC.ret (some (RR.c (Rc.d (D.bool false)))))
   (VC.br (y6.snd.snd)
    (VC.ret (some (RR.c (Rc.d (D.bool false)))))
    (VC.br (y6.snd.fst != IntKind.wrap IntKind.i64 (b + IntKind.wrap IntKind.i64 ((3 : Int) * n)))
     (VC.ret (some (RR.c (Rc.d (D.bool false)))))
     (VC.br (!y7.snd.snd)
      (VC.ret (some (RR.c (Rc.d (D.bool false)))))
      (FnA.at_ a_lPlc 2 (F_p2 b y5.fst (↑(List.length (rowsOn y5.fst)) : Int) (0 : Int)))))))))))))))))))))) := by kernel_rfl
set_option maxRecDepth 100000 in
theorem t_lPl2 (b : Int) (l : List Tok) (n i : Int) : a_lPlc.round s_lPlc 400 2 (F_p2 b l n i) =
(VC.br (decide (i < n))
 (VC.need ((0 : Int) ≤ i ∧ i < (↑(List.length (rowsOn l)) : Int) ∧ List.length (rowAt (rowsOn l) (Int.toNat i)) = (4 : Nat))
 (VC.need (okSh [Kd.int IntKind.i64] (List.drop (3 : Nat) (rowAt (rowsOn l) (Int.toNat i))))
 (VC.need ((2 : Int) ≠ (0 : Int))
 (VC.need ((2 : Int) ≠ (0 : Int))
 (VC.br (asInt (List.getD (List.drop (3 : Nat) (rowAt (rowsOn l) (Int.toNat i))) (0 : Nat) D.nilp) != IntKind.wrap IntKind.i64 (IntKind.wrap IntKind.i64 (b + IntKind.wrap IntKind.i64 (IntKind.wrap IntKind.i64 (Int.tdiv i (2 : Int)) * (3 : Int))) + IntKind.wrap IntKind.i64 (Int.tmod i (2 : Int) * (2 : Int))))
  (VC.ret (some (RR.c (Rc.d (D.bool false)))))
  (VC.need ((0 : Int) ≤ i ∧ i < (↑(List.length (rowsOn l)) : Int) ∧ List.length (rowAt (rowsOn l) (Int.toNat i)) = (4 : Nat))
  (VC.need (okSh [Kd.int IntKind.i64] (List.drop (0 : Nat) (rowAt (rowsOn l) (Int.toNat i))))
  (VC.need ((2 : Int) ≠ (0 : Int))
  (VC.need ((0 : Int) ≤ Int.tmod i (2 : Int) ∧ Int.tmod i (2 : Int) < (2 : Int))
  (VC.need (Int.toNat (Int.tmod i (2 : Int)) < (2 : Nat) ∧ List.length (rowAt [[D.int IntKind.i64 (1 : Int)], [D.int IntKind.i64 (3 : Int)]] (Int.toNat (Int.tmod i (2 : Int)))) = (1 : Nat) ∧ okSh [Kd.int IntKind.i64] (List.drop (0 : Nat) (rowAt [[D.int IntKind.i64 (1 : Int)], [D.int IntKind.i64 (3 : Int)]] (Int.toNat (Int.tmod i (2 : Int))))))
  (VC.br (asInt (List.getD (List.drop (0 : Nat) (rowAt (rowsOn l) (Int.toNat i))) (0 : Nat) D.nilp) != asInt (List.getD (List.drop (0 : Nat) (rowAt [[D.int IntKind.i64 (1 : Int)], [D.int IntKind.i64 (3 : Int)]] (Int.toNat (Int.tmod i (2 : Int))))) (0 : Nat) D.nilp))
   (VC.ret (some (RR.c (Rc.d (D.bool false)))))
   (FnA.at_ a_lPlc 2 (F_p2 b l n (IntKind.wrap IntKind.i64 (i + (1 : Int))))))))))))))))
 (VC.need (PreOk c_awake4 PUnit.unit [])
 (VC.ret (some (RR.c (Rc.d (D.bool true))))))) := by kernel_rfl
def absR : Nat → List Rn
  | 0 => []
  | n + 1 => ⟨97⟩ :: ⟨98⟩ :: ⟨44⟩ :: absR n
def toksA : Nat → Int → List Tok
  | 0, _ => []
  | n + 1, a => ⟨1, txt [⟨97⟩, ⟨98⟩], 0, a⟩ :: ⟨3, txt [⟨44⟩], 0, a + 2⟩ :: toksA n (a + 3)
theorem absR_len : ∀ n : Nat, (absR n).length = 3 * n
  | 0 => rfl
  | n + 1 => by simp only [absR, List.length_cons, absR_len n]; omega
theorem toksA_len : ∀ (n : Nat) (a : Int), (toksA n a).length = 2 * n
  | 0, _ => rfl
  | n + 1, a => by simp only [toksA, List.length_cons, toksA_len n]; omega
theorem absR_snoc : ∀ n : Nat, absR n ++ [⟨97⟩, ⟨98⟩, ⟨44⟩] = absR (n + 1)
  | 0 => rfl
  | n + 1 => by
    show ⟨97⟩ :: ⟨98⟩ :: ⟨44⟩ :: (absR n ++ [⟨97⟩, ⟨98⟩, ⟨44⟩]) = _
    rw [absR_snoc n]
    rfl
theorem rd_cons2 {α : Type} [Row α] (x y : α) (l : List α) (i : Int) (h : 2 ≤ i) : rd (x :: y :: l) i = rd l (i - 2) := by
  unfold rd
  rw [show i.toNat = (i - 2).toNat + 1 + 1 by omega]
  rfl
theorem toksA_at : ∀ (n : Nat) (a i : Int), 0 ≤ i → i < 2 * n → (rd (toksA n a) i).at_ = a + Int.tdiv i 2 * 3 + Int.tmod i 2 * 2 ∧ (rd (toksA n a) i).kind = (if Int.tmod i 2 = 0 then 1 else 3)
  | 0, a, i, h0, h => by omega
  | n + 1, a, i, h0, h => by
    have t1 : Int.tdiv i 2 = i / 2 := Int.tdiv_eq_ediv_of_nonneg h0
    have t2 : Int.tmod i 2 = i % 2 := Int.tmod_eq_emod_of_nonneg h0
    rw [t1, t2]
    by_cases h2 : 2 ≤ i
    · have ih := toksA_at n (a + 3) (i - 2) (by omega) (by omega)
      rw [Int.tdiv_eq_ediv_of_nonneg (show 0 ≤ i - 2 by omega), Int.tmod_eq_emod_of_nonneg (show 0 ≤ i - 2 by omega)] at ih
      unfold toksA
      rw [rd_cons2 _ _ _ _ h2, ih.1, ih.2]
      have e1 : (i - 2) % 2 = i % 2 := by omega
      have e2 : (i - 2) / 2 = i / 2 - 1 := by omega
      rw [e1, e2]
      exact ⟨by omega, rfl⟩
    · have : i = 0 ∨ i = 1 := by omega
      rcases this with rfl | rfl
      · exact ⟨by show a = _; omega, rfl⟩
      · exact ⟨by show a + 2 = _; omega, rfl⟩
theorem lineA_blanks : ∀ (L : List Rn) (R : List Rn) (a : Int), (∀ c ∈ L, isBl c.v = true) → lineA (L ++ R) a = lineA R (a + L.length)
  | [], R, a, _ => by simp
  | c :: L, R, a, h => by
    have hb := h c List.mem_cons_self
    have h59 : ¬ c.v = 59 := fun e => by rw [e] at hb; exact absurd hb (by decide)
    rw [List.cons_append, lineA_cons, if_neg h59, if_pos hb, lineA_blanks L R (a + 1) fun d hd => h d (List.mem_cons_of_mem _ hd), List.length_cons]
    congr 1
    omega
theorem joinL_nil (r : List Tok × Int × Bool) (h : r.2.2 = false → r.1 = []) : joinL [] r = r := by
  unfold joinL
  split
  · rfl
  · rename_i hn
    rw [← h (Bool.eq_false_iff.2 hn)]
theorem lineA_bad' (l : List Rn) (a : Int) : (lineA l a).2.2 = false → (lineA l a).1 = [] := lineA_bad _ l a
theorem joinL_cons (t : Tok) (acc : List Tok) (r : List Tok × Int × Bool) : (if (joinL acc r).2.2 = true then (t :: (joinL acc r).1, (joinL acc r).2) else joinL acc r) = joinL (t :: acc) r := by
  unfold joinL
  split
  · rfl
  · rfl
theorem lineA_ab (X : List Rn) (a : Int) : lineA (⟨97⟩ :: ⟨98⟩ :: ⟨44⟩ :: X) a = joinL [⟨1, txt [⟨97⟩, ⟨98⟩], 0, a⟩, ⟨3, txt [⟨44⟩], 0, a + 2⟩] (lineA X (a + 3)) := by
  have hn : nameL (⟨97⟩ :: ⟨98⟩ :: ⟨44⟩ :: X) = 2 := by
    rw [nameL_cons, if_pos (by decide), nameL_cons, if_pos (by decide), nameL_cons, if_neg (by decide)]
  have s1 : signL (⟨97⟩ :: ⟨98⟩ :: ⟨44⟩ :: X) a = some (⟨1, txt [⟨97⟩, ⟨98⟩], 0, a⟩, 2) := by
    unfold signL
    dsimp only
    rw [if_pos (by decide), hn]
    rfl
  have s2 : signL (⟨44⟩ :: X) (a + 2) = some (⟨3, txt [⟨44⟩], 0, a + 2⟩, 1) := by
    unfold signL
    dsimp only
    rw [if_neg (by decide), if_neg (by decide), if_pos (by decide)]
  have e2 : lineA (⟨44⟩ :: X) (a + 2) = joinL [⟨3, txt [⟨44⟩], 0, a + 2⟩] (lineA X (a + 3)) := by
    rw [lineA_cons, if_neg (by decide), if_neg (by decide), s2]
    dsimp only
    rw [if_neg (fun q => absurd q.1 (by decide))]
    have e3 : lineA (List.drop 1 ((⟨44⟩ : Rn) :: X)) (a + 2 + ((1 : Nat) : Int)) = lineA X (a + 3) := by
      rw [show a + 2 + ((1 : Nat) : Int) = a + 3 by omega]; rfl
    rw [e3, ← joinL_cons, joinL_nil _ (lineA_bad' X (a + 3))]
  rw [lineA_cons, if_neg (by decide), if_neg (by decide), s1]
  dsimp only
  rw [if_neg (fun q => absurd q.1 (by decide))]
  show (if (lineA (⟨44⟩ :: X) (a + 2)).2.2 = true then (_ :: (lineA (⟨44⟩ :: X) (a + 2)).1, (lineA (⟨44⟩ :: X) (a + 2)).2) else lineA (⟨44⟩ :: X) (a + 2)) = _
  rw [e2, joinL_cons]
theorem joinL_joinL (x y : List Tok) (r : List Tok × Int × Bool) : joinL x (joinL y r) = joinL (x ++ y) r := by
  unfold joinL
  split
  · simp [List.append_assoc]
  · rfl
theorem lineA_abs : ∀ (n : Nat) (R : List Rn) (a : Int), lineA (absR n ++ R) a = joinL (toksA n a) (lineA R (a + 3 * n))
  | 0, R, a => by
    show lineA R a = joinL [] (lineA R (a + 3 * 0))
    rw [show a + 3 * 0 = a by omega, joinL_nil _ (lineA_bad' R a)]
  | n + 1, R, a => by
    show lineA (⟨97⟩ :: ⟨98⟩ :: ⟨44⟩ :: (absR n ++ R)) a = _
    rw [lineA_ab, lineA_abs n R (a + 3), joinL_joinL, show a + 3 + 3 * (n : Int) = a + 3 * ((n + 1 : Nat) : Int) by omega]
    rfl
def badB (b : ByteArray) : Bool := match runesB (b.data.toList ++ [195, 169]) with
  | [] => false
  | c :: _ => (c.v != 59) && !isBl c.v && !isLet c.v && !isDig c.v && !isSig c.v
theorem badB_spec {b : ByteArray} (h : badB b = true) (a : Int) : lineA (runesS (b ++ ⟨#[195, 169]⟩)) a = ([], a, false) := by
  have e : runesS (b ++ ⟨#[195, 169]⟩) = runesB (b.data.toList ++ [195, 169]) := by rw [runesS_B, ba_data_app]
  unfold badB at h
  rw [e]
  split at h
  · cases h
  · rename_i c l e2
    simp only [Bool.and_eq_true, bne_iff_ne, Bool.not_eq_true'] at h
    obtain ⟨⟨⟨⟨h1, h2⟩, h3⟩, h4⟩, h5⟩ := h
    have s1 : signL (c :: l) a = none := by
      unfold signL
      dsimp only
      rw [if_neg (by rw [h3]; simp), if_neg (by rw [h4]; simp), if_neg (by rw [h5]; simp)]
    rw [e2, lineA_cons, if_neg h1, if_neg (by rw [h2]; simp), s1]
def badT : List (List D) := [[.str ⟨#[195, 169]⟩], [.str ⟨#[255]⟩], [.str ⟨#[240, 157, 132, 158]⟩], [.str ⟨#[33]⟩], [.str ⟨#[0]⟩], [.str ⟨#[90]⟩]]
def badTB : List (List D) → Bool := fun T => T.all fun r => match r with
  | [.str b] => badB b && decide (b.size ≤ 4)
  | _ => false
theorem badT_at {k : Nat} (hk : k < 6) : ∃ b : ByteArray, rowAt badT k = [.str b] ∧ badB b = true ∧ b.size ≤ 4 := by
  have h : badTB badT = true := by decide +kernel
  unfold badTB at h
  rw [List.all_eq_true] at h
  have hm : rowAt badT k ∈ badT := by
    unfold rowAt
    rw [List.getD_eq_getElem?_getD, List.getElem?_eq_getElem (show k < badT.length from hk)]
    exact List.getElem_mem _
  have := h _ hm
  generalize rowAt badT k = r at this
  match r, this with
  | [.str b], h =>
    simp only [Bool.and_eq_true, decide_eq_true_eq] at h
    exact ⟨b, rfl, h.1, h.2⟩
theorem ba_assoc (a b c : ByteArray) : a ++ b ++ c = a ++ (b ++ c) := ByteArray.append_assoc
theorem l_lPl2 (b : Int) (n : Nat) (hb : 0 ≤ b ∧ b ≤ 16) (hn : n ≤ 7) : ∀ i_ : Int, (fun (i : Int) => 0 ≤ i ∧ i ≤ 2 * n) i_ → (a_lPlc.at_ 2 ((fun (i : Int) => F_p2 b (toksA n b) (2 * n : Nat) i) i_)).holds s_lPlc.cx a_lPlc.rs (fun r => r.le (rb true)) := by
  refine loop_rule (a := a_lPlc) (j := 2) (m := 400) s_lPlc_sound (fun (i : Int) => F_p2 b (toksA n b) (2 * n : Nat) i) (fun (i : Int) => 0 ≤ i ∧ i ≤ 2 * n) (fun (i : Int) => ((2 * n : Int) - i).toNat) ?_
  rintro i h_inv ih
  try dsimp only at h_inv
  show VC.holds _ _ _ (a_lPlc.round s_lPlc 400 2 (F_p2 b (toksA n b) (2 * n : Nat) i))
  rw [t_lPl2]
  try simp only [asRows_sl, asInt_int, asBool_bool, asStr_str, listOf_rowsOn, List.drop_zero, Prg.eta, Sta.eta, rowsOn_length, getD_drop, Nat.reduceAdd, rd_int, rd_PMem_name, rd_PMem_secret, rd_PMem_n, rd_PLabel_name, rd_PLabel_at_, rd_Ins_kind, rd_Ins_op, rd_Ins_d, rd_Ins_aR, rd_Ins_aN, rd_Ins_bR, rd_Ins_bN, rd_Ins_name, rd_Ins_target, rd_Ent_pc, rd_Ent_val, rd_Ent_addr, rd_Ent_fro, rd_Ent_next, rd_Ent_done, rd_Ent_known, rd_Ent_fault, rd_Place_reg, rd_Place_n, rd_Place_secret, rd_Obs_kind, rd_Obs_at_, rd_Dir_kind, rd_Dir_n, rd_Rn_v, rd_Tok_kind, rd_Tok_text, rd_Tok_n, rd_Tok_at_]
  obtain ⟨h0, h1⟩ := h_inv
  have hl := toksA_len n b
  refine br_dec (fun hd => ?_) (fun hd => ⟨PreOk.mk trivial rfl, ret_le (RR.le_refl _)⟩)
  obtain ⟨a1, a2⟩ := toksA_at n b i h0 (by omega)
  have t1 : Int.tdiv i 2 = i / 2 := Int.tdiv_eq_ediv_of_nonneg h0
  have t2 : Int.tmod i 2 = i % 2 := Int.tmod_eq_emod_of_nonneg h0
  rw [t1, t2] at a1
  rw [t2] at a2
  rw [t1, t2]
  have g : 0 ≤ i ∧ i < ((toksA n b).length : Int) ∧ (rowAt (rowsOn (toksA n b)) i.toNat).length = 4 := idx_ok _ i 4 rfl h0 (by omega)
  rw [wrap_small (i / 2) (by omega) (by omega), wrap_small (i / 2 * 3) (by omega) (by omega), wrap_small (i % 2 * 2) (by omega) (by omega), wrap_small (b + i / 2 * 3) (by omega) (by omega), wrap_small (b + i / 2 * 3 + i % 2 * 2) (by omega) (by omega), wrap_small (i + 1) (by omega) (by omega)]
  refine ⟨g, okSh_okD _ 3 _ i (fun _ => rfl) h0 (by omega), by decide, by decide, br_bne (fun h => absurd a1 h) (fun _ => ?_)⟩
  have : i % 2 = 0 ∨ i % 2 = 1 := by omega
  rcases this with e | e
  · rw [e] at a2 ⊢
    refine ⟨g, okSh_okD _ 0 _ i (fun _ => rfl) h0 (by omega), by decide, ⟨by decide, by decide⟩, ⟨by decide, rfl, rfl⟩, br_bne (fun h => absurd a2 h) (fun _ => ih _ ⟨by omega, by omega⟩ (by omega))⟩
  · rw [e] at a2 ⊢
    refine ⟨g, okSh_okD _ 0 _ i (fun _ => rfl) h0 (by omega), by decide, ⟨by decide, by decide⟩, ⟨by decide, rfl, rfl⟩, br_bne (fun h => absurd a2 h) (fun _ => ih _ ⟨by omega, by omega⟩ (by omega))⟩
theorem l_lPl1 (b : Nat) (n : Nat) (w : Int) (L : List Rn) (hL : L.length = b ∧ ∀ c ∈ L, isBl c.v = true) (hb : b ≤ 15) (hn : n ≤ 7) : ∀ i_ : ByteArray × Int, (fun (v : ByteArray × Int) => 0 ≤ v.2 ∧ v.2 ≤ n ∧ Asc v.1 (L ++ absR v.2.toNat)) i_ → (a_lPlc.at_ 1 ((fun (v : ByteArray × Int) => F_p1 b n w v.1 v.2) i_)).holds s_lPlc.cx a_lPlc.rs (fun r => r.le (rb true)) := by
  refine loop_rule (a := a_lPlc) (j := 1) (m := 400) s_lPlc_sound (fun (v : ByteArray × Int) => F_p1 b n w v.1 v.2) (fun (v : ByteArray × Int) => 0 ≤ v.2 ∧ v.2 ≤ n ∧ Asc v.1 (L ++ absR v.2.toNat)) (fun (v : ByteArray × Int) => ((n : Int) - v.2).toNat) ?_
  rintro ⟨s, i⟩ h_inv ih
  try dsimp only at h_inv
  replace ih := fun (v0 : ByteArray) (v1 : Int) => ih (v0, v1)
  try dsimp only at ih
  show VC.holds _ _ _ (a_lPlc.round s_lPlc 400 1 (F_p1 b n w s i))
  rw [t_lPl1]
  try simp only [asRows_sl, asInt_int, asBool_bool, asStr_str, listOf_rowsOn, List.drop_zero, Prg.eta, Sta.eta, rowsOn_length, getD_drop, Nat.reduceAdd, rd_int, rd_PMem_name, rd_PMem_secret, rd_PMem_n, rd_PLabel_name, rd_PLabel_at_, rd_Ins_kind, rd_Ins_op, rd_Ins_d, rd_Ins_aR, rd_Ins_aN, rd_Ins_bR, rd_Ins_bN, rd_Ins_name, rd_Ins_target, rd_Ent_pc, rd_Ent_val, rd_Ent_addr, rd_Ent_fro, rd_Ent_next, rd_Ent_done, rd_Ent_known, rd_Ent_fault, rd_Place_reg, rd_Place_n, rd_Place_secret, rd_Obs_kind, rd_Obs_at_, rd_Dir_kind, rd_Dir_n, rd_Rn_v, rd_Tok_kind, rd_Tok_text, rd_Tok_n, rd_Tok_at_]
  obtain ⟨h0, h1, hs⟩ := h_inv
  have hsz : s.size = L.length + 3 * i.toNat := by rw [hs.size, List.length_append, absR_len]
  refine br_dec (fun hd => ?_) (fun hd => ?_)
  · rw [wrap_small (i + 1) (by omega) (by omega)]
    refine ⟨by omega, ih _ _ ⟨by omega, by omega, ?_⟩ (by omega)⟩
    have h2 : Asc (⟨#[97, 98, 44]⟩ : ByteArray) [⟨97⟩, ⟨98⟩, ⟨44⟩] := ⟨by decide, by decide⟩
    have := hs.app h2
    rw [List.append_assoc, absR_snoc, show i.toNat + 1 = (i + 1).toNat by omega] at this
    exact this
  · have ei : i.toNat = n := by omega
    rw [ei] at hs hsz
    have hm0 : 0 ≤ Int.tmod (bits .and .i64 w 255) 6 := by rw [and255]; exact Int.tmod_nonneg _ (Int.emod_nonneg _ (by decide))
    have hm1 : Int.tmod (bits .and .i64 w 255) 6 < 6 := Int.tmod_lt_of_pos _ (by decide)
    generalize Int.tmod (bits .and .i64 w 255) 6 = k at hm0 hm1 ⊢
    obtain ⟨bad, hbad, hbb, hbs⟩ := badT_at (k := k.toNat) (by omega)
    have eT : ([[D.str ⟨#[195, 169]⟩], [D.str ⟨#[255]⟩], [D.str ⟨#[240, 157, 132, 158]⟩], [D.str ⟨#[33]⟩], [D.str ⟨#[0]⟩], [D.str ⟨#[90]⟩]] : List (List D)) = badT := rfl
    rw [eT, hbad]
    have e1 : asStr (List.getD [D.str bad] 0 D.nilp) = bad := rfl
    have e2 : List.drop 0 [D.str bad] = [D.str bad] := rfl
    try rw [e2]
    rw [e1]
    have z1 := ba_len s bad
    have z2 := ba_len (s ++ bad) ⟨#[195, 169]⟩
    have z3 := ba_len s ⟨#[59]⟩
    have z4 := ba_len (s ++ ⟨#[59]⟩) bad
    have q1 : ByteArray.size ⟨#[195, 169]⟩ = 2 := rfl
    have q2 : ByteArray.size ⟨#[59]⟩ = 1 := rfl
    have r1 : lineS s = (toksA n b, 0, true) := by
      rw [lineS_A, hs.runes0, lineA_blanks L _ 0 hL.2, ← List.append_nil (absR n), lineA_abs]
      rw [show (0 : Int) + L.length = b by omega]
      show (toksA n b ++ [], (0 : Int), true) = _
      rw [List.append_nil]
    have r2 : lineS (s ++ bad ++ ⟨#[195, 169]⟩) = ([], (b : Int) + 3 * n, false) := by
      rw [ba_assoc, lineS_A, hs.runes, List.append_assoc, lineA_blanks L _ 0 hL.2, lineA_abs, badB_spec hbb]
      rw [show (0 : Int) + L.length = b by omega]
      rfl
    have r3 : lineS (s ++ ⟨#[59]⟩ ++ bad) = (toksA n b, 0, true) := by
      have h2 : Asc (⟨#[59]⟩ : ByteArray) [⟨59⟩] := ⟨by decide, by decide⟩
      rw [lineS_A, (hs.app h2).runes, List.append_assoc, List.append_assoc, lineA_blanks L _ 0 hL.2, lineA_abs]
      rw [show (0 : Int) + L.length = b by omega]
      show joinL (toksA n b) (lineA (⟨59⟩ :: runesS bad) _) = _
      rw [lineA_cons, if_pos rfl]
      show (toksA n b ++ [], (0 : Int), true) = _
      rw [List.append_nil]
    refine ⟨PreOk.mk (by show s.size ≤ 1000000; omega) rfl, all_holds fun y5 h5 => ⟨by decide, ⟨hm0, hm1⟩, ⟨by omega, rfl, rfl⟩, by omega, by omega, PreOk.mk (by show (s ++ bad ++ _).size ≤ 1000000; omega) rfl, all_holds fun y6 h6 => ⟨by omega, by omega, PreOk.mk (by show (s ++ _ ++ bad).size ≤ 1000000; omega) rfl, all_holds fun y7 h7 => ?_⟩⟩⟩
    replace h5 : y5 = (toksA n b, 0, true) := Eq.trans h5 r1
    replace h6 : y6 = ([], (b : Int) + 3 * n, false) := Eq.trans h6 r2
    replace h7 : y7 = (toksA n b, 0, true) := Eq.trans h7 r3
    subst h5 h6 h7
    have hl := toksA_len n b
    rw [wrap_small (2 * (n : Int)) (by omega) (by omega), wrap_small (3 * (n : Int)) (by omega) (by omega), wrap_small ((b : Int) + 3 * n) (by omega) (by omega)]
    refine br_not (br_t rfl (br_bne (fun h => absurd (by dsimp only; omega) h) (fun _ => br_f rfl (br_bne (fun h => absurd rfl h) (fun _ => br_not (br_t rfl ?_))))))
    dsimp only
    rw [show ((toksA n b).length : Int) = ((2 * n : Nat) : Int) by omega]
    exact l_lPl2 b n ⟨by omega, by omega⟩ hn 0 ⟨by omega, by omega⟩
theorem l_lPl0 (b : Nat) (n : Nat) (w : Int) (hb : b ≤ 15) (hn : n ≤ 7) : ∀ i_ : ByteArray × Int, (fun (v : ByteArray × Int) => 0 ≤ v.2 ∧ v.2 ≤ b ∧ ∃ L : List Rn, Asc v.1 L ∧ L.length = v.2 ∧ ∀ c ∈ L, isBl c.v = true) i_ → (a_lPlc.at_ 0 ((fun (v : ByteArray × Int) => F_p0 b n w v.1 v.2) i_)).holds s_lPlc.cx a_lPlc.rs (fun r => r.le (rb true)) := by
  refine loop_rule (a := a_lPlc) (j := 0) (m := 400) s_lPlc_sound (fun (v : ByteArray × Int) => F_p0 b n w v.1 v.2) (fun (v : ByteArray × Int) => 0 ≤ v.2 ∧ v.2 ≤ b ∧ ∃ L : List Rn, Asc v.1 L ∧ L.length = v.2 ∧ ∀ c ∈ L, isBl c.v = true) (fun (v : ByteArray × Int) => ((b : Int) - v.2).toNat) ?_
  rintro ⟨s, i⟩ h_inv ih
  try dsimp only at h_inv
  replace ih := fun (v0 : ByteArray) (v1 : Int) => ih (v0, v1)
  try dsimp only at ih
  show VC.holds _ _ _ (a_lPlc.round s_lPlc 400 0 (F_p0 b n w s i))
  rw [t_lPl0]
  try simp only [asRows_sl, asInt_int, asBool_bool, asStr_str, listOf_rowsOn, List.drop_zero, Prg.eta, Sta.eta, rowsOn_length, getD_drop, Nat.reduceAdd, rd_int, rd_PMem_name, rd_PMem_secret, rd_PMem_n, rd_PLabel_name, rd_PLabel_at_, rd_Ins_kind, rd_Ins_op, rd_Ins_d, rd_Ins_aR, rd_Ins_aN, rd_Ins_bR, rd_Ins_bN, rd_Ins_name, rd_Ins_target, rd_Ent_pc, rd_Ent_val, rd_Ent_addr, rd_Ent_fro, rd_Ent_next, rd_Ent_done, rd_Ent_known, rd_Ent_fault, rd_Place_reg, rd_Place_n, rd_Place_secret, rd_Obs_kind, rd_Obs_at_, rd_Dir_kind, rd_Dir_n, rd_Rn_v, rd_Tok_kind, rd_Tok_text, rd_Tok_n, rd_Tok_at_]
  obtain ⟨h0, h1, L, hs, hl, hL⟩ := h_inv
  have hsz := hs.size
  refine br_dec (fun hd => ?_) (fun hd => ?_)
  · rw [and1, wrap_small (i + 1) (by omega) (by omega)]
    have : i % 2 = 0 ∨ i % 2 = 1 := by omega
    rcases this with e | e
    · rw [e]
      refine ⟨⟨by decide, by decide⟩, ⟨by decide, rfl, rfl⟩, by show s.size + 1 ≤ _; omega, ih _ _ ⟨by omega, by omega, L ++ [⟨32⟩], hs.app (t := ⟨#[32]⟩) ⟨by decide, by decide⟩, by rw [List.length_append, List.length_singleton]; omega, fun c hc => ?_⟩ (by omega)⟩
      rcases List.mem_append.1 hc with h | h
      · exact hL c h
      · rw [List.mem_singleton.1 h]; decide
    · rw [e]
      refine ⟨⟨by decide, by decide⟩, ⟨by decide, rfl, rfl⟩, by show s.size + 1 ≤ _; omega, ih _ _ ⟨by omega, by omega, L ++ [⟨9⟩], hs.app (t := ⟨#[9]⟩) ⟨by decide, by decide⟩, by rw [List.length_append, List.length_singleton]; omega, fun c hc => ?_⟩ (by omega)⟩
      rcases List.mem_append.1 hc with h | h
      · exact hL c h
      · rw [List.mem_singleton.1 h]; decide
  · refine l_lPl1 b n w L ⟨by omega, hL⟩ hb hn (s, 0) ⟨by dsimp only; omega, by dsimp only; omega, ?_⟩
    show Asc s (L ++ [])
    rw [List.append_nil]
    exact hs
theorem c_lPlc_good : c_lPlc.fe.Good Try.prog := by
  refine FT.good c_lPlc ⟨Try.f6, by kernel_rfl, by decide +kernel, by kernel_rfl⟩ (fun ⟨b, n, w⟩ => by first | rfl | simp [c_lPlc, rrRef, rTok3, rLine, rR, riib3, ri, rb, rib, Sta.fresh]) fun ⟨b, n, w⟩ hp => ?_
  refine acalls_le s_lPlc_sound (fn := Try.f6) (a := a_lPlc) (nargs := 3) (tbl := [(4, [0, 1, 2, 7, 8]), (8, [0, 1, 2, 7, 9]), (18, [0, 10, 99, 100])]) (by kernel_rfl) (by kernel_rfl) rfl (m := 400) ?_
  show VC.holds _ _ _ (a_lPlc.start s_lPlc 400 [ai b, ai n, ai w])
  rw [t_lPlc]
  try simp only [asRows_sl, asInt_int, asBool_bool, asStr_str, listOf_rowsOn, List.drop_zero, Prg.eta, Sta.eta, rowsOn_length, getD_drop, Nat.reduceAdd, rd_int, rd_PMem_name, rd_PMem_secret, rd_PMem_n, rd_PLabel_name, rd_PLabel_at_, rd_Ins_kind, rd_Ins_op, rd_Ins_d, rd_Ins_aR, rd_Ins_aN, rd_Ins_bR, rd_Ins_bN, rd_Ins_name, rd_Ins_target, rd_Ent_pc, rd_Ent_val, rd_Ent_addr, rd_Ent_fro, rd_Ent_next, rd_Ent_done, rd_Ent_known, rd_Ent_fault, rd_Place_reg, rd_Place_n, rd_Place_secret, rd_Obs_kind, rd_Obs_at_, rd_Dir_kind, rd_Dir_n, rd_Rn_v, rd_Tok_kind, rd_Tok_text, rd_Tok_n, rd_Tok_at_]
  try simp only [c_lPlc] at hp
  rw [and15, and7]
  obtain ⟨B, hB⟩ := Int.eq_ofNat_of_zero_le (show 0 ≤ b % 16 by omega)
  obtain ⟨M, hM⟩ := Int.eq_ofNat_of_zero_le (show 0 ≤ n % 8 by omega)
  rw [hB, hM]
  exact l_lPl0 B M w (by omega) (by omega) (_, 0) ⟨by dsimp only; omega, by dsimp only; omega, [], Asc.nil, rfl, fun c hc => by cases hc⟩
end Go.Proofs.Ytmhfhobaicklmaa.Ax
