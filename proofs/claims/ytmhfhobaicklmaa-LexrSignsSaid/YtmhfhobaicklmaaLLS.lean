/- LexrSigns: each sign's text stands in the line at its place. -/
import Derived.Test.YtmhfhobaicklmaaP5
namespace Go.Proofs.Ytmhfhobaicklmaa.Ax
open Go.RowKit
set_option linter.unusedVariables false
set_option linter.unusedSimpArgs false
def c_lSgn : FT (List Int × Unit) := ⟨7, fun x => [al4 x.1], rdL1, fun _ => True, fun _ => rb true, false, fun x => by simp [al4, rdL1]⟩
noncomputable def a_lSgn : FnA := (fnA Try.prog Try.f7 1 [(7, [4, 7, 27, 1000007000000900001001]), (12, [4, 7, 10, 36, 37, 1000007000000900001001]), (14, [4, 7, 10, 11, 36, 37, 1000007000000900001001]), (20, [4, 7, 10, 11, 12, 36, 37, 72, 1000007000000900001001]), (29, [7, 10, 1000007000000900001001])]).getD ⟨0, .skip, [], []⟩
noncomputable def s_lSgn : Sp := spT [c_awake4.fe, c_lLine.gfe v_lLine sh_lLine e_lLine, c_text.gfe v_text sh_text e_text]
theorem s_lSgn_sound : s_lSgn.sound Try.prog := spT_sound fun e he => by
  simp only [List.mem_cons, List.not_mem_nil, or_false] at he
  rcases he with rfl | rfl | rfl
  · exact c_awake4_good
  · exact FT.gfe_good c_lLine_good
  · exact FT.gfe_good c_text_good
def F_g0 (x : List Tok) (s : ByteArray) (i n : Nat) (R : List (List D)) : St := ⟨mkS 138 [(4, vr (rowsOn x)), (7, vo 900001 n), (27, vp 1728)], [(1728, ⟨1, false, .iter s i⟩), (900001, ba 1 R)]⟩
def F_g1 (x : List Tok) (n : Nat) (R : List (List D)) (a m j : Int) : St := ⟨mkS 138 [(4, vr (rowsOn x)), (7, vo 900001 n), (10, vi a), (36, vi m), (37, vi j)], [(900001, ba 1 R)]⟩
def F_g2 (x : List Tok) (n : Nat) (R : List (List D)) (a k m j : Int) : St := ⟨mkS 138 [(4, vr (rowsOn x)), (7, vo 900001 n), (10, vi a), (11, vi k), (36, vi m), (37, vi j)], [(900001, ba 1 R)]⟩
def F_g3 (x : List Tok) (n : Nat) (R : List (List D)) (a k v m j : Int) (s : ByteArray) (i : Nat) : St := ⟨mkS 138 [(4, vr (rowsOn x)), (7, vo 900001 n), (10, vi a), (11, vi k), (12, vi v), (36, vi m), (37, vi j), (72, vp 4608)], [(4608, ⟨1, false, .iter s i⟩), (900001, ba 1 R)]⟩
def F_g4 (n : Nat) (R : List (List D)) (a : Int) : St := ⟨mkS 138 [(7, vo 900001 n), (10, vi a)], [(900001, ba 1 R)]⟩
set_option maxRecDepth 100000 in
theorem t_lSgn (l : List Int) : a_lSgn.start s_lSgn 400 [al4 l] =
(VC.need (PreOk c_text (l, ()) [A.c (D.sl (rowsOn l))])
(VC.all (v_text (listOf Int (rowsOn l), ())) fun (y1 : ByteArray) =>
(VC.need (PreOk c_lLine (y1, ()) [A.c (D.str y1)])
(VC.all (v_lLine (y1, ())) fun (y2 : List Tok × Int × Bool) =>
(VC.br (!y2.snd.snd)
 (VC.need (PreOk c_awake4 PUnit.unit [])
 (VC.ret (some (RR.c (Rc.d (D.bool true))))))
 (FnA.at_ a_lSgn 0 (F_g0 y2.fst y1 (0 : Nat) (0 : Nat) []))))))) := by kernel_rfl
set_option maxRecDepth 100000 in
theorem t_lSg0 (x : List Tok) (s : ByteArray) (i n : Nat) (R : List (List D)) : a_lSgn.round s_lSgn 400 0 (F_g0 x s i n R) =
(VC.br (decide (i < ByteArray.size s))
 (VC.need ((List.all [[D.int IntKind.i32 (↑(Utf8.decode s i).fst : Int)]] fun r ↦ List.length r == (1 : Nat)) = true ∧ (List.all R fun r ↦ List.length r == (1 : Nat)) = true ∧ (List.length R + List.length [[D.int IntKind.i32 (↑(Utf8.decode s i).fst : Int)]] + (100 : Nat)) * (5 : Nat) ≤ (70368744177664 : Nat))
 (FnA.at_ a_lSgn 0 (F_g0 x s (i + (Utf8.decode s i).snd) (List.length R + List.length [[D.int IntKind.i32 (↑(Utf8.decode s i).fst : Int)]]) (R ++ [[D.int IntKind.i32 (↑(Utf8.decode s i).fst : Int)]]))))
 (FnA.at_ a_lSgn 1 (F_g1 x n R (0 : Int) (↑(List.length (rowsOn x)) : Int) (0 : Int)))) := by kernel_rfl
set_option maxRecDepth 100000 in
theorem t_lSg1 (x : List Tok) (n : Nat) (R : List (List D)) (a m j : Int) : a_lSgn.round s_lSgn 400 1 (F_g1 x n R a m j) =
(VC.br (decide (j < m))
 (FnA.at_ a_lSgn 2 (F_g2 x n R a j m j))
 (FnA.at_ a_lSgn 4 (F_g4 n R a))) := by kernel_rfl
set_option maxRecDepth 100000 in
theorem t_lSg2 (x : List Tok) (n : Nat) (R : List (List D)) (a k m j : Int) : a_lSgn.round s_lSgn 400 2 (F_g2 x n R a k m j) =
(VC.need ((0 : Int) ≤ k ∧ k < (↑(List.length (rowsOn x)) : Int) ∧ List.length (rowAt (rowsOn x) (Int.toNat k)) = (4 : Nat))
(VC.need (okSh [Kd.int IntKind.i64] (List.drop (3 : Nat) (rowAt (rowsOn x) (Int.toNat k))))
(VC.br (decide (a < asInt (List.getD (List.drop (3 : Nat) (rowAt (rowsOn x) (Int.toNat k))) (0 : Nat) D.nilp)))
 (VC.br (decide (a < (↑n : Int)))
  (VC.need ((0 : Int) ≤ a ∧ a < (↑n : Int))
  (VC.need (Int.toNat a < List.length R ∧ List.length (rowAt R (Int.toNat a)) = (1 : Nat) ∧ okSh [Kd.int IntKind.i32] (List.drop (0 : Nat) (rowAt R (Int.toNat a))))
  (VC.br (asInt (List.getD (List.drop (0 : Nat) (rowAt R (Int.toNat a))) (0 : Nat) D.nilp) != (32 : Int))
   (VC.need ((0 : Int) ≤ a ∧ a < (↑n : Int))
   (VC.need (Int.toNat a < List.length R ∧ List.length (rowAt R (Int.toNat a)) = (1 : Nat) ∧ okSh [Kd.int IntKind.i32] (List.drop (0 : Nat) (rowAt R (Int.toNat a))))
   (VC.br (asInt (List.getD (List.drop (0 : Nat) (rowAt R (Int.toNat a))) (0 : Nat) D.nilp) != (9 : Int))
    (VC.ret (some (RR.c (Rc.d (D.bool false)))))
    (FnA.at_ a_lSgn 2 (F_g2 x n R (IntKind.wrap IntKind.i64 (a + (1 : Int))) k m j)))))
   (FnA.at_ a_lSgn 2 (F_g2 x n R (IntKind.wrap IntKind.i64 (a + (1 : Int))) k m j)))))
  (VC.need ((0 : Int) ≤ k ∧ k < (↑(List.length (rowsOn x)) : Int) ∧ List.length (rowAt (rowsOn x) (Int.toNat k)) = (4 : Nat))
  (VC.need (okSh [Kd.str] (List.drop (1 : Nat) (rowAt (rowsOn x) (Int.toNat k))))
  (FnA.at_ a_lSgn 3 (F_g3 x n R a k (0 : Int) m j (asStr (List.getD (List.drop (1 : Nat) (rowAt (rowsOn x) (Int.toNat k))) (0 : Nat) D.nilp)) (0 : Nat))))))
 (VC.need ((0 : Int) ≤ k ∧ k < (↑(List.length (rowsOn x)) : Int) ∧ List.length (rowAt (rowsOn x) (Int.toNat k)) = (4 : Nat))
 (VC.need (okSh [Kd.str] (List.drop (1 : Nat) (rowAt (rowsOn x) (Int.toNat k))))
 (FnA.at_ a_lSgn 3 (F_g3 x n R a k (0 : Int) m j (asStr (List.getD (List.drop (1 : Nat) (rowAt (rowsOn x) (Int.toNat k))) (0 : Nat) D.nilp)) (0 : Nat)))))))) := by kernel_rfl
set_option maxRecDepth 100000 in
theorem t_lSg3 (x : List Tok) (n : Nat) (R : List (List D)) (a k v m j : Int) (s : ByteArray) (i : Nat) : a_lSgn.round s_lSgn 400 3 (F_g3 x n R a k v m j s i) =
(VC.br (decide (i < ByteArray.size s))
 (VC.br (decide ((↑n : Int) ≤ a))
  (VC.ret (some (RR.c (Rc.d (D.bool false)))))
  (VC.need ((0 : Int) ≤ a ∧ a < (↑n : Int))
  (VC.need (Int.toNat a < List.length R ∧ List.length (rowAt R (Int.toNat a)) = (1 : Nat) ∧ okSh [Kd.int IntKind.i32] (List.drop (0 : Nat) (rowAt R (Int.toNat a))))
  (VC.br (asInt (List.getD (List.drop (0 : Nat) (rowAt R (Int.toNat a))) (0 : Nat) D.nilp) != (↑(Utf8.decode s i).fst : Int))
   (VC.ret (some (RR.c (Rc.d (D.bool false)))))
   (FnA.at_ a_lSgn 3 (F_g3 x n R (IntKind.wrap IntKind.i64 (a + (1 : Int))) k (IntKind.wrap IntKind.i64 (IntKind.wrap IntKind.i64 ((10 : Int) * v) + IntKind.wrap IntKind.i64 (IntKind.wrap IntKind.i32 ((↑(Utf8.decode s i).fst : Int) - (48 : Int))))) m j s (i + (Utf8.decode s i).snd)))))))
 (VC.need ((0 : Int) ≤ k ∧ k < (↑(List.length (rowsOn x)) : Int) ∧ List.length (rowAt (rowsOn x) (Int.toNat k)) = (4 : Nat))
 (VC.need (okSh [Kd.int IntKind.i64] (List.drop (0 : Nat) (rowAt (rowsOn x) (Int.toNat k))))
 (VC.br (asInt (List.getD (List.drop (0 : Nat) (rowAt (rowsOn x) (Int.toNat k))) (0 : Nat) D.nilp) == (2 : Int))
  (VC.need ((0 : Int) ≤ k ∧ k < (↑(List.length (rowsOn x)) : Int) ∧ List.length (rowAt (rowsOn x) (Int.toNat k)) = (4 : Nat))
  (VC.need (okSh [Kd.int IntKind.i64] (List.drop (2 : Nat) (rowAt (rowsOn x) (Int.toNat k))))
  (VC.br (asInt (List.getD (List.drop (2 : Nat) (rowAt (rowsOn x) (Int.toNat k))) (0 : Nat) D.nilp) != v)
   (VC.ret (some (RR.c (Rc.d (D.bool false)))))
   (FnA.at_ a_lSgn 1 (F_g1 x n R a m (IntKind.wrap IntKind.i64 (j + (1 : Int))))))))
  (FnA.at_ a_lSgn 1 (F_g1 x n R a m (IntKind.wrap IntKind.i64 (j + (1 : Int))))))))) := by kernel_rfl
set_option maxRecDepth 100000 in
theorem t_lSg4 (n : Nat) (R : List (List D)) (a : Int) : a_lSgn.round s_lSgn 400 4 (F_g4 n R a) =
(VC.br (decide (a < (↑n : Int)))
 (VC.need ((0 : Int) ≤ a ∧ a < (↑n : Int))
 (VC.need (Int.toNat a < List.length R ∧ List.length (rowAt R (Int.toNat a)) = (1 : Nat) ∧ okSh [Kd.int IntKind.i32] (List.drop (0 : Nat) (rowAt R (Int.toNat a))))
 (VC.br (asInt (List.getD (List.drop (0 : Nat) (rowAt R (Int.toNat a))) (0 : Nat) D.nilp) != (59 : Int))
  (VC.need ((0 : Int) ≤ a ∧ a < (↑n : Int))
  (VC.need (Int.toNat a < List.length R ∧ List.length (rowAt R (Int.toNat a)) = (1 : Nat) ∧ okSh [Kd.int IntKind.i32] (List.drop (0 : Nat) (rowAt R (Int.toNat a))))
  (VC.br (asInt (List.getD (List.drop (0 : Nat) (rowAt R (Int.toNat a))) (0 : Nat) D.nilp) != (32 : Int))
   (VC.need ((0 : Int) ≤ a ∧ a < (↑n : Int))
   (VC.need (Int.toNat a < List.length R ∧ List.length (rowAt R (Int.toNat a)) = (1 : Nat) ∧ okSh [Kd.int IntKind.i32] (List.drop (0 : Nat) (rowAt R (Int.toNat a))))
   (VC.br (asInt (List.getD (List.drop (0 : Nat) (rowAt R (Int.toNat a))) (0 : Nat) D.nilp) != (9 : Int))
    (VC.ret (some (RR.c (Rc.d (D.bool false)))))
    (FnA.at_ a_lSgn 4 (F_g4 n R (IntKind.wrap IntKind.i64 (a + (1 : Int))))))))
   (FnA.at_ a_lSgn 4 (F_g4 n R (IntKind.wrap IntKind.i64 (a + (1 : Int))))))))
  (VC.need (PreOk c_awake4 PUnit.unit [])
  (VC.ret (some (RR.c (Rc.d (D.bool true)))))))))
 (VC.need (PreOk c_awake4 PUnit.unit [])
 (VC.ret (some (RR.c (Rc.d (D.bool true))))))) := by kernel_rfl
theorem drop_one {r : List Rn} {a : Int} {c : Rn} {l : List Rn} (h0 : 0 ≤ a) (h : r.drop a.toNat = c :: l) : a < r.length ∧ rd r a = c ∧ r.drop (a + 1).toNat = l := by
  have hl : a < r.length := by
    rcases Int.lt_or_le a r.length with h1 | h1
    · exact h1
    · rw [drop_end r a h1] at h; cases h
  rw [drop_rn r a h0 hl] at h
  simp only [List.cons.injEq] at h
  exact ⟨hl, h.1, h.2⟩
theorem rn_ld (r : List Rn) (a : Int) (h0 : 0 ≤ a) (h : a < r.length) : a.toNat < r.length ∧ (rowAt (rowsOn r) a.toNat).length = 1 ∧ okSh [Kd.int IntKind.i32] (rowAt (rowsOn r) a.toNat) := ⟨by omega, (rn_ok r a h0 h).2.2, rn_sh r a h0 h⟩
theorem tk_ok (x : List Tok) (k : Int) (h0 : 0 ≤ k) (h : k < x.length) : 0 ≤ k ∧ k < (x.length : Int) ∧ (rowAt (rowsOn x) k.toNat).length = 4 := idx_ok x k 4 rfl h0 h
theorem bl_or {v : Int} (h : isBl v = true) : v = 32 ∨ v = 9 := by
  unfold isBl at h
  simp only [Bool.or_eq_true, beq_iff_eq] at h
  exact h
theorem l_lSg4 (r : List Rn) (hr : r.length ≤ 1000000) : ∀ i_ : Int, (fun (a : Int) => 0 ≤ a ∧ ∃ B T : List Rn, (∀ c ∈ B, isBl c.v = true) ∧ (T = [] ∨ ∃ c T', T = c :: T' ∧ c.v = 59) ∧ r.drop a.toNat = B ++ T) i_ → (a_lSgn.at_ 4 ((fun (a : Int) => F_g4 r.length (rowsOn r) a) i_)).holds s_lSgn.cx a_lSgn.rs (fun q => q.le (rb true)) := by
  refine loop_rule (a := a_lSgn) (j := 4) (m := 400) s_lSgn_sound (fun (a : Int) => F_g4 r.length (rowsOn r) a) (fun (a : Int) => 0 ≤ a ∧ ∃ B T : List Rn, (∀ c ∈ B, isBl c.v = true) ∧ (T = [] ∨ ∃ c T', T = c :: T' ∧ c.v = 59) ∧ r.drop a.toNat = B ++ T) (fun (a : Int) => ((r.length : Int) - a).toNat) ?_
  rintro a h_inv ih
  try dsimp only at h_inv
  show VC.holds _ _ _ (a_lSgn.round s_lSgn 400 4 (F_g4 r.length (rowsOn r) a))
  rw [t_lSg4]
  try simp only [asRows_sl, asInt_int, asBool_bool, asStr_str, listOf_rowsOn, List.drop_zero, Prg.eta, Sta.eta, rowsOn_length, getD_drop, Nat.reduceAdd, rd_int, rd_PMem_name, rd_PMem_secret, rd_PMem_n, rd_PLabel_name, rd_PLabel_at_, rd_Ins_kind, rd_Ins_op, rd_Ins_d, rd_Ins_aR, rd_Ins_aN, rd_Ins_bR, rd_Ins_bN, rd_Ins_name, rd_Ins_target, rd_Ent_pc, rd_Ent_val, rd_Ent_addr, rd_Ent_fro, rd_Ent_next, rd_Ent_done, rd_Ent_known, rd_Ent_fault, rd_Place_reg, rd_Place_n, rd_Place_secret, rd_Obs_kind, rd_Obs_at_, rd_Dir_kind, rd_Dir_n, rd_Rn_v, rd_Tok_kind, rd_Tok_text, rd_Tok_n, rd_Tok_at_]
  obtain ⟨h0, B, T, hB, hT, hd⟩ := h_inv
  have fin : (VC.need (PreOk c_awake4 PUnit.unit []) (VC.ret (some (RR.c (Rc.d (D.bool true)))))).holds s_lSgn.cx a_lSgn.rs fun q => q.le (rb true) := ⟨PreOk.mk trivial rfl, ret_le (RR.le_refl _)⟩
  refine br_dec (fun hl => ?_) (fun _ => fin)
  refine ⟨⟨h0, hl⟩, rn_ld r a h0 hl, br_bne (fun h59 => ?_) (fun _ => fin)⟩
  have hc : isBl (rd r a).v = true ∧ ∃ B', B = rd r a :: B' := by
    cases B with
    | nil =>
      rcases hT with rfl | ⟨c, T', rfl, h⟩
      · rw [drop_rn r a h0 hl] at hd; cases hd
      · rw [drop_rn r a h0 hl] at hd
        simp only [List.nil_append, List.cons.injEq] at hd
        rw [hd.1] at h59
        exact absurd h h59
    | cons c B' =>
      rw [drop_rn r a h0 hl] at hd
      simp only [List.cons_append, List.cons.injEq] at hd
      rw [hd.1]
      exact ⟨hB c List.mem_cons_self, B', rfl⟩
  obtain ⟨hbl, B', rfl⟩ := hc
  rw [wrap_small (a + 1) (by omega) (by omega)]
  have nxt : (a_lSgn.at_ 4 (F_g4 r.length (rowsOn r) (a + 1))).holds s_lSgn.cx a_lSgn.rs fun q => q.le (rb true) := by
    refine ih _ ⟨by omega, B', T, fun c hc => hB c (List.mem_cons_of_mem _ hc), hT, ?_⟩ (by omega)
    rw [drop_rn r a h0 hl] at hd
    simp only [List.cons_append, List.cons.injEq] at hd
    exact hd.2
  refine ⟨⟨h0, hl⟩, rn_ld r a h0 hl, br_bne (fun h32 => ⟨⟨h0, hl⟩, rn_ld r a h0 hl, br_bne (fun h9 => ?_) (fun _ => nxt)⟩) (fun _ => nxt)⟩
  rcases bl_or hbl with e | e
  · exact absurd e h32
  · exact absurd e h9
theorem l_lSg3 (r : List Rn) (x : List Tok) (k m j : Int) (s : ByteArray) (e V : Int) (l' : List Rn) (P : RR → Prop) (hr : r.length ≤ 1000000) (hk : 0 ≤ k ∧ k < x.length) (hj : 0 ≤ j ∧ j ≤ 1000000) (hV : (rd x k).kind = 2 → (rd x k).n = V) (K : (a_lSgn.at_ 1 (F_g1 x r.length (rowsOn r) e m (j + 1))).holds s_lSgn.cx a_lSgn.rs P) : ∀ i_ : Int × Int × Nat, (fun (v : Int × Int × Nat) => 0 ≤ v.1 ∧ r.drop v.1.toNat = runesAt s v.2.2 ++ l' ∧ valF v.2.1 (runesAt s v.2.2) = V ∧ v.1 + (runesAt s v.2.2).length = e) i_ → (a_lSgn.at_ 3 ((fun (v : Int × Int × Nat) => F_g3 x r.length (rowsOn r) v.1 k v.2.1 m j s v.2.2) i_)).holds s_lSgn.cx a_lSgn.rs (P) := by
  refine loop_rule (a := a_lSgn) (j := 3) (m := 400) s_lSgn_sound (fun (v : Int × Int × Nat) => F_g3 x r.length (rowsOn r) v.1 k v.2.1 m j s v.2.2) (fun (v : Int × Int × Nat) => 0 ≤ v.1 ∧ r.drop v.1.toNat = runesAt s v.2.2 ++ l' ∧ valF v.2.1 (runesAt s v.2.2) = V ∧ v.1 + (runesAt s v.2.2).length = e) (fun (v : Int × Int × Nat) => s.size - v.2.2) ?_
  rintro ⟨a, v, i⟩ h_inv ih
  try dsimp only at h_inv
  replace ih := fun (v0 : Int) (v1 : Int) (v2 : Nat) => ih (v0, v1, v2)
  try dsimp only at ih
  show VC.holds _ _ _ (a_lSgn.round s_lSgn 400 3 (F_g3 x r.length (rowsOn r) a k v m j s i))
  rw [t_lSg3]
  try simp only [asRows_sl, asInt_int, asBool_bool, asStr_str, listOf_rowsOn, List.drop_zero, Prg.eta, Sta.eta, rowsOn_length, getD_drop, Nat.reduceAdd, rd_int, rd_PMem_name, rd_PMem_secret, rd_PMem_n, rd_PLabel_name, rd_PLabel_at_, rd_Ins_kind, rd_Ins_op, rd_Ins_d, rd_Ins_aR, rd_Ins_aN, rd_Ins_bR, rd_Ins_bN, rd_Ins_name, rd_Ins_target, rd_Ent_pc, rd_Ent_val, rd_Ent_addr, rd_Ent_fro, rd_Ent_next, rd_Ent_done, rd_Ent_known, rd_Ent_fault, rd_Place_reg, rd_Place_n, rd_Place_secret, rd_Obs_kind, rd_Obs_at_, rd_Dir_kind, rd_Dir_n, rd_Rn_v, rd_Tok_kind, rd_Tok_text, rd_Tok_n, rd_Tok_at_]
  obtain ⟨h0, h1, h2, h3⟩ := h_inv
  have hp := decode_pos s i
  refine br_dec (fun hd => ?_) (fun hd => ?_)
  · rw [runesAt_lt s i hd] at h1 h2 h3
    obtain ⟨q1, q2, q3⟩ := drop_one h0 h1
    rw [wrap_small (a + 1) (by omega) (by omega)]
    refine br_dec (fun h => absurd q1 (by omega)) (fun _ => ⟨⟨h0, q1⟩, rn_ld r a h0 q1, br_bne (fun h => absurd (by rw [q2]) h) (fun _ => ih _ _ _ ⟨by omega, q3, h2, by rw [← h3, List.length_cons]; omega⟩ (by omega))⟩)
  · rw [runesAt_ge s i (by omega)] at h1 h2 h3
    have h2 : v = V := h2
    have h3 : a + 0 = e := h3
    have nxt : (a_lSgn.at_ 1 (F_g1 x r.length (rowsOn r) a m (IntKind.wrap .i64 (j + 1)))).holds s_lSgn.cx a_lSgn.rs P := by
      rw [wrap_small (j + 1) (by omega) (by omega), show a = e by omega]
      exact K
    refine ⟨tk_ok x k hk.1 hk.2, okSh_ok _ x k (fun _ => rfl) hk.1 hk.2, br_beq (fun h => ⟨tk_ok x k hk.1 hk.2, okSh_okD _ 2 x k (fun _ => rfl) hk.1 hk.2, br_bne (fun q => absurd (by rw [hV h, h2]) q) (fun _ => nxt)⟩) (fun _ => nxt)⟩
theorem l_lSg2 (r : List Rn) (x : List Tok) (k m j : Int) (M l' : List Rn) (P : RR → Prop) (hr : r.length ≤ 1000000) (hk : 0 ≤ k ∧ k < x.length) (hj : 0 ≤ j ∧ j ≤ 1000000) (ht : runesS (rd x k).text = M) (hV : (rd x k).kind = 2 → (rd x k).n = valF 0 M) (K : (a_lSgn.at_ 1 (F_g1 x r.length (rowsOn r) ((rd x k).at_ + M.length) m (j + 1))).holds s_lSgn.cx a_lSgn.rs P) : ∀ i_ : Int, (fun (a : Int) => 0 ≤ a ∧ ∃ B : List Rn, (∀ c ∈ B, isBl c.v = true) ∧ r.drop a.toNat = B ++ (M ++ l') ∧ a + B.length = (rd x k).at_) i_ → (a_lSgn.at_ 2 ((fun (a : Int) => F_g2 x r.length (rowsOn r) a k m j) i_)).holds s_lSgn.cx a_lSgn.rs (P) := by
  refine loop_rule (a := a_lSgn) (j := 2) (m := 400) s_lSgn_sound (fun (a : Int) => F_g2 x r.length (rowsOn r) a k m j) (fun (a : Int) => 0 ≤ a ∧ ∃ B : List Rn, (∀ c ∈ B, isBl c.v = true) ∧ r.drop a.toNat = B ++ (M ++ l') ∧ a + B.length = (rd x k).at_) (fun (a : Int) => ((r.length : Int) - a).toNat) ?_
  rintro a h_inv ih
  try dsimp only at h_inv
  show VC.holds _ _ _ (a_lSgn.round s_lSgn 400 2 (F_g2 x r.length (rowsOn r) a k m j))
  rw [t_lSg2]
  try simp only [asRows_sl, asInt_int, asBool_bool, asStr_str, listOf_rowsOn, List.drop_zero, Prg.eta, Sta.eta, rowsOn_length, getD_drop, Nat.reduceAdd, rd_int, rd_PMem_name, rd_PMem_secret, rd_PMem_n, rd_PLabel_name, rd_PLabel_at_, rd_Ins_kind, rd_Ins_op, rd_Ins_d, rd_Ins_aR, rd_Ins_aN, rd_Ins_bR, rd_Ins_bN, rd_Ins_name, rd_Ins_target, rd_Ent_pc, rd_Ent_val, rd_Ent_addr, rd_Ent_fro, rd_Ent_next, rd_Ent_done, rd_Ent_known, rd_Ent_fault, rd_Place_reg, rd_Place_n, rd_Place_secret, rd_Obs_kind, rd_Obs_at_, rd_Dir_kind, rd_Dir_n, rd_Rn_v, rd_Tok_kind, rd_Tok_text, rd_Tok_n, rd_Tok_at_]
  obtain ⟨h0, B, hB, hd, he⟩ := h_inv
  have out : B = [] → (a_lSgn.at_ 3 (F_g3 x r.length (rowsOn r) a k 0 m j (rd x k).text 0)).holds s_lSgn.cx a_lSgn.rs P := fun e => by
    subst e
    have e1 : runesAt (rd x k).text 0 = M := ht
    refine l_lSg3 r x k m j (rd x k).text ((rd x k).at_ + M.length) (valF 0 M) l' P hr hk hj hV K (a, 0, 0) ⟨h0, ?_, ?_, ?_⟩
    · dsimp only; rw [e1]; exact hd
    · dsimp only; rw [e1]
    · dsimp only; rw [e1, ← he]; simp
  refine ⟨tk_ok x k hk.1 hk.2, okSh_okD _ 3 x k (fun _ => rfl) hk.1 hk.2, br_dec (fun hlt => ?_) (fun hlt => ⟨tk_ok x k hk.1 hk.2, okSh_okD _ 1 x k (fun _ => rfl) hk.1 hk.2, out ?_⟩)⟩
  · cases B with
    | nil => simp at he; exact absurd hlt (by omega)
    | cons c B =>
      obtain ⟨q1, q2, q3⟩ := drop_one h0 hd
      have hbl := hB c List.mem_cons_self
      rw [wrap_small (a + 1) (by omega) (by omega)]
      have nxt : (a_lSgn.at_ 2 (F_g2 x r.length (rowsOn r) (a + 1) k m j)).holds s_lSgn.cx a_lSgn.rs P := ih _ ⟨by omega, B, fun d hd => hB d (List.mem_cons_of_mem _ hd), q3, by rw [← he, List.length_cons]; omega⟩ (by omega)
      refine br_dec (fun _ => ⟨⟨h0, q1⟩, rn_ld r a h0 q1, br_bne (fun h32 => ⟨⟨h0, q1⟩, rn_ld r a h0 q1, br_bne (fun h9 => ?_) (fun _ => nxt)⟩) (fun _ => nxt)⟩) (fun h => absurd q1 h)
      rw [q2] at h32 h9
      rcases bl_or hbl with e | e
      · exact absurd e h32
      · exact absurd e h9
  · cases B with
    | nil => rfl
    | cons c B => rw [List.length_cons] at he; exact absurd hlt (by omega)
theorem l_lSg1 (r : List Rn) (x : List Tok) (hr : r.length ≤ 1000000) (hx : x.length ≤ 1000000) : ∀ i_ : Int × Int, (fun (v : Int × Int) => 0 ≤ v.1 ∧ 0 ≤ v.2 ∧ v.2 ≤ x.length ∧ Chain (r.drop v.1.toNat) v.1 (x.drop v.2.toNat)) i_ → (a_lSgn.at_ 1 ((fun (v : Int × Int) => F_g1 x r.length (rowsOn r) v.1 x.length v.2) i_)).holds s_lSgn.cx a_lSgn.rs (fun q => q.le (rb true)) := by
  refine loop_rule (a := a_lSgn) (j := 1) (m := 400) s_lSgn_sound (fun (v : Int × Int) => F_g1 x r.length (rowsOn r) v.1 x.length v.2) (fun (v : Int × Int) => 0 ≤ v.1 ∧ 0 ≤ v.2 ∧ v.2 ≤ x.length ∧ Chain (r.drop v.1.toNat) v.1 (x.drop v.2.toNat)) (fun (v : Int × Int) => ((x.length : Int) - v.2).toNat) ?_
  rintro ⟨a, j⟩ h_inv ih
  try dsimp only at h_inv
  replace ih := fun (v0 : Int) (v1 : Int) => ih (v0, v1)
  try dsimp only at ih
  show VC.holds _ _ _ (a_lSgn.round s_lSgn 400 1 (F_g1 x r.length (rowsOn r) a x.length j))
  rw [t_lSg1]
  try simp only [asRows_sl, asInt_int, asBool_bool, asStr_str, listOf_rowsOn, List.drop_zero, Prg.eta, Sta.eta, rowsOn_length, getD_drop, Nat.reduceAdd, rd_int, rd_PMem_name, rd_PMem_secret, rd_PMem_n, rd_PLabel_name, rd_PLabel_at_, rd_Ins_kind, rd_Ins_op, rd_Ins_d, rd_Ins_aR, rd_Ins_aN, rd_Ins_bR, rd_Ins_bN, rd_Ins_name, rd_Ins_target, rd_Ent_pc, rd_Ent_val, rd_Ent_addr, rd_Ent_fro, rd_Ent_next, rd_Ent_done, rd_Ent_known, rd_Ent_fault, rd_Place_reg, rd_Place_n, rd_Place_secret, rd_Obs_kind, rd_Obs_at_, rd_Dir_kind, rd_Dir_n, rd_Rn_v, rd_Tok_kind, rd_Tok_text, rd_Tok_n, rd_Tok_at_]
  obtain ⟨h0, h1, h2, h3⟩ := h_inv
  refine br_dec (fun hd => ?_) (fun hd => ?_)
  · rw [drop_rd x j h1 hd] at h3
    generalize hl : r.drop a.toNat = l0 at h3
    generalize hts : rd x j :: x.drop (j + 1).toNat = ts at h3
    cases h3 with
    | done => cases hts
    | tok B M l' a t ts hB hat hM ht hasc hv hn hs ha h =>
      simp only [List.cons.injEq] at hts
      obtain ⟨e1, e2⟩ := hts
      subst e1
      have hdr : r.drop (a + B.length + M.length).toNat = l' := by
        rw [show (a + (B.length : Int) + (M.length : Int)).toNat = a.toNat + (B.length + M.length) by omega, ← List.drop_drop, hl, ← List.append_assoc, ← List.length_append, List.drop_left]
      refine l_lSg2 r x j x.length j M l' _ hr ⟨h1, hd⟩ ⟨h1, by omega⟩ ?_ hv ?_ a ⟨h0, B, hB, hl, hat.symm⟩
      · rw [ht]; exact (txt_asc hasc).runes0
      · rw [hat]
        refine ih _ _ ⟨by omega, by omega, by omega, ?_⟩ (by omega)
        rw [hdr, e2]
        exact h
  · rw [drop_end x j (by omega)] at h3
    generalize hl : r.drop a.toNat = l0 at h3
    generalize hts : ([] : List Tok) = ts at h3
    cases h3 with
    | done B R a hB hR => exact l_lSg4 r hr a ⟨h0, B, R, hB, hR, hl⟩
    | tok => cases hts
theorem l_lSg0 (s : ByteArray) (x : List Tok) (r : List Rn) (hr : r.length ≤ 1000000) (hx : x.length ≤ 1000000) (hc : Chain r 0 x) : ∀ i_ : Nat × Nat × List (List D), (fun (v : Nat × Nat × List (List D)) => ∃ acc : List Rn, OnL v.2.2 v.2.1 acc ∧ acc ++ runesAt s v.1 = r) i_ → (a_lSgn.at_ 0 ((fun (v : Nat × Nat × List (List D)) => F_g0 x s v.1 v.2.1 v.2.2) i_)).holds s_lSgn.cx a_lSgn.rs (fun q => q.le (rb true)) := by
  refine loop_rule (a := a_lSgn) (j := 0) (m := 400) s_lSgn_sound (fun (v : Nat × Nat × List (List D)) => F_g0 x s v.1 v.2.1 v.2.2) (fun (v : Nat × Nat × List (List D)) => ∃ acc : List Rn, OnL v.2.2 v.2.1 acc ∧ acc ++ runesAt s v.1 = r) (fun (v : Nat × Nat × List (List D)) => s.size - v.1) ?_
  rintro ⟨i, n, R⟩ h_inv ih
  try dsimp only at h_inv
  replace ih := fun (v0 : Nat) (v1 : Nat) (v2 : List (List D)) => ih (v0, v1, v2)
  try dsimp only at ih
  show VC.holds _ _ _ (a_lSgn.round s_lSgn 400 0 (F_g0 x s i n R))
  rw [t_lSg0]
  try simp only [asRows_sl, asInt_int, asBool_bool, asStr_str, listOf_rowsOn, List.drop_zero, Prg.eta, Sta.eta, rowsOn_length, getD_drop, Nat.reduceAdd, rd_int, rd_PMem_name, rd_PMem_secret, rd_PMem_n, rd_PLabel_name, rd_PLabel_at_, rd_Ins_kind, rd_Ins_op, rd_Ins_d, rd_Ins_aR, rd_Ins_aN, rd_Ins_bR, rd_Ins_bN, rd_Ins_name, rd_Ins_target, rd_Ent_pc, rd_Ent_val, rd_Ent_addr, rd_Ent_fro, rd_Ent_next, rd_Ent_done, rd_Ent_known, rd_Ent_fault, rd_Place_reg, rd_Place_n, rd_Place_secret, rd_Obs_kind, rd_Obs_at_, rd_Dir_kind, rd_Dir_n, rd_Rn_v, rd_Tok_kind, rd_Tok_text, rd_Tok_n, rd_Tok_at_]
  obtain ⟨acc, h1, h2⟩ := h_inv
  have hl : acc.length ≤ r.length := by rw [← h2, List.length_append]; omega
  have hp := decode_pos s i
  refine br_dec (fun hd => ?_) (fun hd => ?_)
  · refine ⟨app_ok h1 rfl rfl (by simp only [List.length_cons, List.length_nil]; omega), ih _ _ _ ⟨acc ++ [⟨((Utf8.decode s i).1 : Int)⟩], h1.snoc (⟨((Utf8.decode s i).1 : Int)⟩ : Rn), ?_⟩ (by omega)⟩
    rw [List.append_assoc, ← h2, runesAt_lt s i hd]; rfl
  · rw [runesAt_ge s i (by omega), List.append_nil] at h2
    obtain ⟨rfl, rfl⟩ := h1
    subst h2
    exact l_lSg1 acc x hr hx (0, 0) ⟨by dsimp only; omega, by dsimp only; omega, by dsimp only; omega, by simpa using hc⟩
theorem c_lSgn_good : c_lSgn.fe.Good Try.prog := by
  refine FT.good c_lSgn ⟨Try.f7, by kernel_rfl, by decide +kernel, by kernel_rfl⟩ (fun ⟨l, u⟩ => by first | rfl | simp [c_lSgn, rrRef, rTok3, rLine, rR, riib3, ri, rb, rib, Sta.fresh]) fun ⟨l, u⟩ hp => ?_
  refine acalls_le s_lSgn_sound (fn := Try.f7) (a := a_lSgn) (nargs := 1) (tbl := [(7, [4, 7, 27, 1000007000000900001001]), (12, [4, 7, 10, 36, 37, 1000007000000900001001]), (14, [4, 7, 10, 11, 36, 37, 1000007000000900001001]), (20, [4, 7, 10, 11, 12, 36, 37, 72, 1000007000000900001001]), (29, [7, 10, 1000007000000900001001])]) (by kernel_rfl) (by kernel_rfl) rfl (m := 400) ?_
  show VC.holds _ _ _ (a_lSgn.start s_lSgn 400 [al4 l])
  rw [t_lSgn]
  try simp only [asRows_sl, asInt_int, asBool_bool, asStr_str, listOf_rowsOn, List.drop_zero, Prg.eta, Sta.eta, rowsOn_length, getD_drop, Nat.reduceAdd, rd_int, rd_PMem_name, rd_PMem_secret, rd_PMem_n, rd_PLabel_name, rd_PLabel_at_, rd_Ins_kind, rd_Ins_op, rd_Ins_d, rd_Ins_aR, rd_Ins_aN, rd_Ins_bR, rd_Ins_bN, rd_Ins_name, rd_Ins_target, rd_Ent_pc, rd_Ent_val, rd_Ent_addr, rd_Ent_fro, rd_Ent_next, rd_Ent_done, rd_Ent_known, rd_Ent_fault, rd_Place_reg, rd_Place_n, rd_Place_secret, rd_Obs_kind, rd_Obs_at_, rd_Dir_kind, rd_Dir_n, rd_Rn_v, rd_Tok_kind, rd_Tok_text, rd_Tok_n, rd_Tok_at_]
  try simp only [c_lSgn] at hp
  refine ⟨PreOk.mk trivial rfl, all_holds fun s hs => ?_⟩
  have hs2 : s.size ≤ 200 := by rw [show s = textS l from hs]; exact (textS_spec l).1
  refine ⟨PreOk.mk (by show s.size ≤ 1000000; omega) rfl, all_holds fun y hy => br_not (br_holds (fun hok => ?_) (fun _ => ⟨PreOk.mk trivial rfl, ret_le (RR.le_refl _)⟩))⟩
  replace hy : y = lineA (runesS s) 0 := hy
  have hc := chain_of _ (runesS s) 0 (Nat.le_refl _) (by rw [← hy]; exact hok)
  rw [← hy] at hc
  have l1 := runesS_len s
  have l2 : y.1.length ≤ s.size := by rw [hy]; exact lineS_len s
  exact l_lSg0 s y.1 (runesS s) (by omega) (by omega) hc (0, _, _) ⟨[], OnL.nil, rfl⟩
end Go.Proofs.Ytmhfhobaicklmaa.Ax
