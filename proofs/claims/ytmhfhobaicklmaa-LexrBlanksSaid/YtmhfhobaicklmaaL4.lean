/- The statements of layer 4: what they call. -/
import Derived.Test.YtmhfhobaicklmaaL3
import Derived.Test.YtmhfhobaicklmaaAx24
namespace Go.Proofs.Ytmhfhobaicklmaa.Ax
open Go.RowKit
set_option linter.unusedVariables false
set_option linter.unusedSimpArgs false
def extC (f : FuncId) (xs : List A) : Option RR := match f, xs with
  | 96, [.c (.str s), .c (.str t)] => if s.size < 1000000 then some (.c (.d (.bool (Lib.contains s.data.toList t.data.toList)))) else none
  | _, _ => none
theorem extC_sound : ∀ g xs r, extC g xs = some r → ACalls Try.prog g xs r ∧ Enters Try.prog g := by
  intro g xs r h
  unfold extC at h
  split at h
  · rename_i s t
    split at h
    · rename_i hs
      simp only [Option.some.injEq] at h; subst h
      have h := c_cont_good [.c (.str s), .c (.str t)] ⟨rfl, hs⟩
      exact ⟨h.1, h.2.1⟩
    · cases h
  · cases h
theorem awake4 : ACalls Try.prog 26 [] (.c (.d (.bool true))) ∧ Enters Try.prog 26 :=
  axG_sound (Z0_ok _) extC_sound (by intro g sh h; cases h) (n := 400) 12 (by kernel_rfl)
def al4 (l : List Int) : A := .c (.sl (rowsOn l))
def rdTT : List A → List Tok × List Tok
  | [.c (.sl a), .c (.sl b)] => (listOf Tok a, listOf Tok b)
  | _ => default
def rd0 : List A → Unit := fun _ => ()
def c_awake4 : FT Unit := ⟨26, fun _ => [], rd0, fun _ => True, fun _ => rb true, false, fun _ => rfl⟩
theorem c_awake4_good : c_awake4.fe.Good Try.prog := FT.good c_awake4 awake4.2 (fun _ => rfl) fun _ _ => awake4.1
noncomputable def a_text : FnA := (fnA Try.prog Try.f27 1 [(4, [0, 3, 4, 5])]).getD ⟨0, .skip, [], []⟩
def s_text : Sp := spT []
theorem s_text_sound : s_text.sound Try.prog := spT_sound fun e he => by cases he
def F_txt (l : List Int) (m : Nat) (T : List (List D)) (s : ByteArray) (i : Int) : St := ⟨mkS 40 [(0, vr (rowsOn l)), (3, vo 384 m), (4, vt s), (5, vi i)], [(384, ba 1 T)]⟩
set_option maxRecDepth 100000 in
theorem t_text (l : List Int) : a_text.start s_text 400 [al4 l] =
(FnA.at_ a_text 0 (F_txt l (47 : Nat) [[D.str { data := #[(119 : UInt8), (105 : UInt8), (100 : UInt8), (116 : UInt8), (104 : UInt8)] }], [D.str { data := #[(119 : UInt8), (105 : UInt8), (110 : UInt8), (100 : UInt8), (111 : UInt8), (119 : UInt8)] }], [D.str { data := #[(102 : UInt8), (117 : UInt8), (101 : UInt8), (108 : UInt8)] }], [D.str { data := #[(112 : UInt8), (117 : UInt8), (98 : UInt8), (108 : UInt8), (105 : UInt8), (99 : UInt8)] }], [D.str { data := #[(115 : UInt8), (101 : UInt8), (99 : UInt8), (114 : UInt8), (101 : UInt8), (116 : UInt8)] }], [D.str { data := #[(97 : UInt8), (100 : UInt8), (100 : UInt8)] }], [D.str { data := #[(120 : UInt8), (111 : UInt8), (114 : UInt8)] }], [D.str { data := #[(108 : UInt8), (116 : UInt8)] }], [D.str { data := #[(109 : UInt8), (111 : UInt8), (118 : UInt8)] }], [D.str { data := #[(108 : UInt8), (111 : UInt8), (97 : UInt8), (100 : UInt8)] }], [D.str { data := #[(115 : UInt8), (116 : UInt8), (111 : UInt8), (114 : UInt8), (101 : UInt8)] }], [D.str { data := #[(99 : UInt8), (109 : UInt8), (111 : UInt8), (118 : UInt8)] }], [D.str { data := #[(98 : UInt8), (114 : UInt8)] }], [D.str { data := #[(106 : UInt8), (109 : UInt8), (112 : UInt8)] }], [D.str { data := #[(99 : UInt8), (97 : UInt8), (108 : UInt8), (108 : UInt8)] }], [D.str { data := #[(105 : UInt8), (110 : UInt8), (100 : UInt8)] }], [D.str { data := #[(114 : UInt8), (101 : UInt8), (116 : UInt8)] }], [D.str { data := #[(102 : UInt8), (101 : UInt8), (110 : UInt8), (99 : UInt8), (101 : UInt8)] }], [D.str { data := #[(104 : UInt8), (97 : UInt8), (108 : UInt8), (116 : UInt8)] }], [D.str { data := #[(114 : UInt8), (48 : UInt8)] }], [D.str { data := #[(114 : UInt8), (49 : UInt8)] }], [D.str { data := #[(114 : UInt8), (50 : UInt8)] }], [D.str { data := #[(114 : UInt8), (51 : UInt8)] }], [D.str { data := #[(114 : UInt8), (52 : UInt8)] }], [D.str { data := #[(97 : UInt8)] }], [D.str { data := #[(108 : UInt8), (97 : UInt8), (98 : UInt8), (49 : UInt8)] }], [D.str { data := #[(48 : UInt8)] }], [D.str { data := #[(49 : UInt8)] }], [D.str { data := #[(50 : UInt8)] }], [D.str { data := #[(48 : UInt8), (55 : UInt8)] }], [D.str { data := #[(49 : UInt8), (50 : UInt8)] }], [D.str { data := #[(57 : UInt8), (57 : UInt8), (57 : UInt8), (57 : UInt8), (57 : UInt8)] }], [D.str { data := #[(49 : UInt8), (50 : UInt8), (51 : UInt8), (52 : UInt8), (53 : UInt8), (54 : UInt8)] }], [D.str { data := #[(44 : UInt8)] }], [D.str { data := #[(58 : UInt8)] }], [D.str { data := #[(91 : UInt8)] }], [D.str { data := #[(93 : UInt8)] }], [D.str { data := #[(43 : UInt8)] }], [D.str { data := #[(59 : UInt8)] }], [D.str { data := #[(32 : UInt8)] }], [D.str { data := #[(32 : UInt8), (32 : UInt8)] }], [D.str { data := #[(9 : UInt8)] }], [D.str { data := #[(195 : UInt8), (169 : UInt8)] }], [D.str { data := #[(255 : UInt8)] }], [D.str { data := #[(65 : UInt8)] }], [D.str { data := #[(45 : UInt8)] }], [D.str { data := #[(49 : UInt8), (97 : UInt8)] }]] { data := #[] } (0 : Int))) := by kernel_rfl
set_option maxRecDepth 100000 in
theorem t_text0 (l : List Int) (m : Nat) (T : List (List D)) (s : ByteArray) (i : Int) : a_text.round s_text 400 0 (F_txt l m T s i) =
(VC.br (decide (i < (↑(List.length (rowsOn l)) : Int)))
 (VC.br (decide (i < (20 : Int)))
  (VC.need ((0 : Int) ≤ i ∧ i < (↑(List.length (rowsOn l)) : Int) ∧ List.length (rowAt (rowsOn l) (Int.toNat i)) = (1 : Nat))
  (VC.need (okSh [Kd.int IntKind.i64] (rowAt (rowsOn l) (Int.toNat i)))
  (VC.need ((↑m : Int) ≠ (0 : Int))
  (VC.need ((0 : Int) ≤ Int.tmod (bits BinOp.and IntKind.i64 (asInt (List.getD (rowAt (rowsOn l) (Int.toNat i)) (0 : Nat) D.nilp)) (255 : Int)) (↑m : Int) ∧ Int.tmod (bits BinOp.and IntKind.i64 (asInt (List.getD (rowAt (rowsOn l) (Int.toNat i)) (0 : Nat) D.nilp)) (255 : Int)) (↑m : Int) < (↑m : Int))
  (VC.need (Int.toNat (Int.tmod (bits BinOp.and IntKind.i64 (asInt (List.getD (rowAt (rowsOn l) (Int.toNat i)) (0 : Nat) D.nilp)) (255 : Int)) (↑m : Int)) < List.length T ∧ List.length (rowAt T (Int.toNat (Int.tmod (bits BinOp.and IntKind.i64 (asInt (List.getD (rowAt (rowsOn l) (Int.toNat i)) (0 : Nat) D.nilp)) (255 : Int)) (↑m : Int)))) = (1 : Nat) ∧ okSh [Kd.str] (List.drop (0 : Nat) (rowAt T (Int.toNat (Int.tmod (bits BinOp.and IntKind.i64 (asInt (List.getD (rowAt (rowsOn l) (Int.toNat i)) (0 : Nat) D.nilp)) (255 : Int)) (↑m : Int))))))
  (VC.need (ByteArray.size s + ByteArray.size (asStr (List.getD (List.drop (0 : Nat) (rowAt T (Int.toNat (Int.tmod (bits BinOp.and IntKind.i64 (asInt (List.getD (rowAt (rowsOn l) (Int.toNat i)) (0 : Nat) D.nilp)) (255 : Int)) (↑m : Int))))) (0 : Nat) D.nilp)) ≤ (9223372036854775807 : Nat))
  (VC.need ((0 : Int) ≤ i ∧ i < (↑(List.length (rowsOn l)) : Int) ∧ List.length (rowAt (rowsOn l) (Int.toNat i)) = (1 : Nat))
  (VC.need (okSh [Kd.int IntKind.i64] (rowAt (rowsOn l) (Int.toNat i)))
  (VC.need ((0 : Int) ≤ (8 : Int))
  (VC.br (decide ((0 : Int) < bits BinOp.and IntKind.i64 (Int.fdiv (asInt (List.getD (rowAt (rowsOn l) (Int.toNat i)) (0 : Nat) D.nilp)) (256 : Int)) (3 : Int)))
   (VC.need (ByteArray.size (s ++ asStr (List.getD (List.drop (0 : Nat) (rowAt T (Int.toNat (Int.tmod (bits BinOp.and IntKind.i64 (asInt (List.getD (rowAt (rowsOn l) (Int.toNat i)) (0 : Nat) D.nilp)) (255 : Int)) (↑m : Int))))) (0 : Nat) D.nilp)) + (1 : Nat) ≤ (9223372036854775807 : Nat))
   (FnA.at_ a_text 0 (F_txt l m T (s ++ asStr (List.getD (List.drop (0 : Nat) (rowAt T (Int.toNat (Int.tmod (bits BinOp.and IntKind.i64 (asInt (List.getD (rowAt (rowsOn l) (Int.toNat i)) (0 : Nat) D.nilp)) (255 : Int)) (↑m : Int))))) (0 : Nat) D.nilp) ++ { data := #[(32 : UInt8)] }) (IntKind.wrap IntKind.i64 (i + (1 : Int))))))
   (FnA.at_ a_text 0 (F_txt l m T (s ++ asStr (List.getD (List.drop (0 : Nat) (rowAt T (Int.toNat (Int.tmod (bits BinOp.and IntKind.i64 (asInt (List.getD (rowAt (rowsOn l) (Int.toNat i)) (0 : Nat) D.nilp)) (255 : Int)) (↑m : Int))))) (0 : Nat) D.nilp)) (IntKind.wrap IntKind.i64 (i + (1 : Int)))))))))))))))
  (VC.ret (some (RR.c (Rc.d (D.str s))))))
 (VC.ret (some (RR.c (Rc.d (D.str s)))))) := by kernel_rfl
def TextQ (r : RR) : Prop := ∃ s : ByteArray, s.size ≤ 200 ∧ r = .c (.d (.str s))
def okTab (T : List (List D)) : Bool := T.all fun r => match r with
  | [.str b] => decide (b.size ≤ 6)
  | _ => false
theorem okTab_at {T : List (List D)} (h : okTab T = true) {k : Nat} (hk : k < T.length) : ∃ b : ByteArray, rowAt T k = [.str b] ∧ b.size ≤ 6 := by
  unfold okTab at h
  rw [List.all_eq_true] at h
  have hm : rowAt T k ∈ T := by
    unfold rowAt
    rw [List.getD_eq_getElem?_getD, List.getElem?_eq_getElem hk]
    exact List.getElem_mem hk
  have := h _ hm
  generalize rowAt T k = r at this
  match r, this with
  | [.str b], h => exact ⟨b, rfl, of_decide_eq_true h⟩
theorem ba_len (s t : ByteArray) : (s ++ t).size = s.size + t.size := ByteArray.size_append
theorem l_text0 (l : List Int) (m : Nat) (T : List (List D)) (hm : m = T.length) (hT : okTab T = true) (h0 : 0 < m) : ∀ i_ : ByteArray × Int, (fun (v : ByteArray × Int) => 0 ≤ v.2 ∧ v.2 ≤ 20 ∧ v.1.size ≤ 7 * v.2) i_ → (a_text.at_ 0 ((fun (v : ByteArray × Int) => F_txt l m T v.1 v.2) i_)).holds s_text.cx a_text.rs (fun r => TextQ r) := by
  refine loop_rule (a := a_text) (j := 0) (m := 400) s_text_sound (fun (v : ByteArray × Int) => F_txt l m T v.1 v.2) (fun (v : ByteArray × Int) => 0 ≤ v.2 ∧ v.2 ≤ 20 ∧ v.1.size ≤ 7 * v.2) (fun (v : ByteArray × Int) => (20 - v.2).toNat) ?_
  rintro ⟨s, i⟩ h_inv ih
  try dsimp only at h_inv
  replace ih := fun (v0 : ByteArray) (v1 : Int) => ih (v0, v1)
  try dsimp only at ih
  show VC.holds _ _ _ (a_text.round s_text 400 0 (F_txt l m T s i))
  rw [t_text0]
  try simp only [asRows_sl, asInt_int, asBool_bool, asStr_str, listOf_rowsOn, List.drop_zero, Prg.eta, Sta.eta, rowsOn_length, getD_drop, Nat.reduceAdd, rd_int, rd_PMem_name, rd_PMem_secret, rd_PMem_n, rd_PLabel_name, rd_PLabel_at_, rd_Ins_kind, rd_Ins_op, rd_Ins_d, rd_Ins_aR, rd_Ins_aN, rd_Ins_bR, rd_Ins_bN, rd_Ins_name, rd_Ins_target, rd_Ent_pc, rd_Ent_val, rd_Ent_addr, rd_Ent_fro, rd_Ent_next, rd_Ent_done, rd_Ent_known, rd_Ent_fault, rd_Place_reg, rd_Place_n, rd_Place_secret, rd_Obs_kind, rd_Obs_at_, rd_Dir_kind, rd_Dir_n, rd_Rn_v, rd_Tok_kind, rd_Tok_text, rd_Tok_n, rd_Tok_at_]
  obtain ⟨i0, i1, hs⟩ := h_inv
  have fin : (VC.ret (some (RR.c (Rc.d (D.str s))))).holds s_text.cx a_text.rs fun r => TextQ r := ⟨s, by omega, rfl⟩
  refine br_dec (fun hd => br_dec (fun h20 => ?_) (fun _ => fin)) (fun _ => fin)
  have g : 0 ≤ i ∧ i < (l.length : Int) ∧ (rowAt (rowsOn l) i.toNat).length = 1 := idx_ok l i 1 rfl i0 hd
  have sh : okSh [Kd.int .i64] (rowAt (rowsOn l) i.toNat) := okSh_ok _ l i (fun _ => rfl) i0 hd
  rw [and255]
  have hm0 : 0 ≤ Int.tmod (rd l i % 256) m := Int.tmod_nonneg _ (Int.emod_nonneg _ (by decide))
  have hm1 : Int.tmod (rd l i % 256) m < m := Int.tmod_lt_of_pos _ (by omega)
  generalize Int.tmod (rd l i % 256) m = k at hm0 hm1
  obtain ⟨b, hb, hb6⟩ := okTab_at hT (k := k.toNat) (by omega)
  rw [hb, wrap_small (i + 1) (by omega) (by omega)]
  have e1 : asStr (List.getD [D.str b] 0 D.nilp) = b := rfl
  rw [e1]
  refine ⟨g, sh, by omega, ⟨hm0, hm1⟩, ⟨by omega, rfl, rfl⟩, by omega, g, sh, by decide, br_dec (fun _ => ⟨by rw [ba_len]; omega, ih _ _ ⟨by omega, by omega, ?_⟩ (by omega)⟩) (fun _ => ih _ _ ⟨by omega, by omega, ?_⟩ (by omega))⟩
  · rw [ba_len, ba_len]
    have : ByteArray.size { data := #[(32 : UInt8)] } = 1 := rfl
    omega
  · rw [ba_len]; omega
theorem x_text (l : List Int) : ∃ r, (fun r => TextQ r) r ∧ ACalls Try.prog 27 [al4 l] r := by
  refine acalls_some s_text_sound (fn := Try.f27) (a := a_text) (nargs := 1) (tbl := [(4, [0, 3, 4, 5])]) (by kernel_rfl) (by kernel_rfl) rfl (m := 400) ?_
  show VC.holds _ _ _ (a_text.start s_text 400 [al4 l])
  rw [t_text]
  try simp only [asRows_sl, asInt_int, asBool_bool, asStr_str, listOf_rowsOn, List.drop_zero, Prg.eta, Sta.eta, rowsOn_length, getD_drop, Nat.reduceAdd, rd_int, rd_PMem_name, rd_PMem_secret, rd_PMem_n, rd_PLabel_name, rd_PLabel_at_, rd_Ins_kind, rd_Ins_op, rd_Ins_d, rd_Ins_aR, rd_Ins_aN, rd_Ins_bR, rd_Ins_bN, rd_Ins_name, rd_Ins_target, rd_Ent_pc, rd_Ent_val, rd_Ent_addr, rd_Ent_fro, rd_Ent_next, rd_Ent_done, rd_Ent_known, rd_Ent_fault, rd_Place_reg, rd_Place_n, rd_Place_secret, rd_Obs_kind, rd_Obs_at_, rd_Dir_kind, rd_Dir_n, rd_Rn_v, rd_Tok_kind, rd_Tok_text, rd_Tok_n, rd_Tok_at_]
  refine l_text0 l 47 _ ?_ ?_ (by decide) (_, 0) ?_
  · rfl
  · decide +kernel
  · exact ⟨by show (0 : Int) ≤ 0; decide, by show (0 : Int) ≤ 20; decide, by show (0 : Int) ≤ 7 * 0; decide⟩
def c_same4 : FT (List Tok × List Tok) := ⟨29, fun x => [.c (.sl (rowsOn x.1)), .c (.sl (rowsOn x.2))], rdTT, fun x => x.1.length ≤ 1000000 ∧ x.2.length ≤ 1000000, fun x => rb (decide (x.1 = x.2)), false, fun x => by simp [rdTT]⟩
noncomputable def a_same4 : FnA := (fnA Try.prog Try.f29 2 [(4, [0, 1, 12, 13])]).getD ⟨0, .skip, [], []⟩
def s_same4 : Sp := spT []
theorem s_same4_sound : s_same4.sound Try.prog := spT_sound fun e he => by cases he
def F_sm4 (x y : List Tok) (n i : Int) : St := ⟨mkS 26 [(0, vr (rowsOn x)), (1, vr (rowsOn y)), (12, vi n), (13, vi i)], []⟩
set_option maxRecDepth 100000 in
theorem t_same4 (x y : List Tok) : a_same4.start s_same4 400 [.c (.sl (rowsOn x)), .c (.sl (rowsOn y))] =
(VC.br ((↑(List.length (rowsOn x)) : Int) != (↑(List.length (rowsOn y)) : Int))
 (VC.ret (some (RR.c (Rc.d (D.bool false)))))
 (FnA.at_ a_same4 0 (F_sm4 x y (↑(List.length (rowsOn x)) : Int) (0 : Int)))) := by kernel_rfl
set_option maxRecDepth 100000 in
theorem t_sm40 (x y : List Tok) (n i : Int) : a_same4.round s_same4 400 0 (F_sm4 x y n i) =
(VC.br (decide (i < n))
 (VC.need ((0 : Int) ≤ i ∧ i < (↑(List.length (rowsOn x)) : Int) ∧ List.length (rowAt (rowsOn x) (Int.toNat i)) = (4 : Nat))
 (VC.need (okSh [Kd.int IntKind.i64, Kd.str, Kd.int IntKind.i64, Kd.int IntKind.i64] (rowAt (rowsOn x) (Int.toNat i)))
 (VC.need ((0 : Int) ≤ i ∧ i < (↑(List.length (rowsOn y)) : Int) ∧ List.length (rowAt (rowsOn y) (Int.toNat i)) = (4 : Nat))
 (VC.need (okSh [Kd.int IntKind.i64, Kd.str, Kd.int IntKind.i64, Kd.int IntKind.i64] (rowAt (rowsOn y) (Int.toNat i)))
 (VC.br (if true = true then !(asInt (List.getD (rowAt (rowsOn x) (Int.toNat i)) (0 : Nat) D.nilp) == asInt (List.getD (rowAt (rowsOn y) (Int.toNat i)) (0 : Nat) D.nilp) && (ByteArray.toList (asStr (List.getD (rowAt (rowsOn x) (Int.toNat i)) (1 : Nat) D.nilp)) == ByteArray.toList (asStr (List.getD (rowAt (rowsOn y) (Int.toNat i)) (1 : Nat) D.nilp)) && (asInt (List.getD (rowAt (rowsOn x) (Int.toNat i)) (2 : Nat) D.nilp) == asInt (List.getD (rowAt (rowsOn y) (Int.toNat i)) (2 : Nat) D.nilp) && (asInt (List.getD (rowAt (rowsOn x) (Int.toNat i)) (3 : Nat) D.nilp) == asInt (List.getD (rowAt (rowsOn y) (Int.toNat i)) (3 : Nat) D.nilp) && true)))) else asInt (List.getD (rowAt (rowsOn x) (Int.toNat i)) (0 : Nat) D.nilp) == asInt (List.getD (rowAt (rowsOn y) (Int.toNat i)) (0 : Nat) D.nilp) && (ByteArray.toList (asStr (List.getD (rowAt (rowsOn x) (Int.toNat i)) (1 : Nat) D.nilp)) == ByteArray.toList (asStr (List.getD (rowAt (rowsOn y) (Int.toNat i)) (1 : Nat) D.nilp)) && (asInt (List.getD (rowAt (rowsOn x) (Int.toNat i)) (2 : Nat) D.nilp) == asInt (List.getD (rowAt (rowsOn y) (Int.toNat i)) (2 : Nat) D.nilp) && (asInt (List.getD (rowAt (rowsOn x) (Int.toNat i)) (3 : Nat) D.nilp) == asInt (List.getD (rowAt (rowsOn y) (Int.toNat i)) (3 : Nat) D.nilp) && true))))
  (VC.ret (some (RR.c (Rc.d (D.bool false)))))
  (FnA.at_ a_same4 0 (F_sm4 x y n (IntKind.wrap IntKind.i64 (i + (1 : Int))))))))))
 (VC.ret (some (RR.c (Rc.d (D.bool true)))))) := by kernel_rfl
theorem ba_toList {s t : ByteArray} (h : s.toList = t.toList) : s = t := by
  rw [ByteArray.toList_eq, ByteArray.toList_eq] at h
  exact ByteArray.ext (Array.toList_inj.mp h)
theorem l_sm40 (x y : List Tok) (hx : x.length ≤ 1000000) (hl : x.length = y.length) : ∀ i_ : Int, (fun (i : Int) => 0 ≤ i ∧ i ≤ x.length ∧ x.take i.toNat = y.take i.toNat) i_ → (a_same4.at_ 0 ((fun (i : Int) => F_sm4 x y x.length i) i_)).holds s_same4.cx a_same4.rs (fun r => r.le (rb (decide (x = y)))) := by
  refine loop_rule (a := a_same4) (j := 0) (m := 400) s_same4_sound (fun (i : Int) => F_sm4 x y x.length i) (fun (i : Int) => 0 ≤ i ∧ i ≤ x.length ∧ x.take i.toNat = y.take i.toNat) (fun (i : Int) => ((x.length : Int) - i).toNat) ?_
  rintro i h_inv ih
  try dsimp only at h_inv
  show VC.holds _ _ _ (a_same4.round s_same4 400 0 (F_sm4 x y x.length i))
  rw [t_sm40]
  try simp only [asRows_sl, asInt_int, asBool_bool, asStr_str, listOf_rowsOn, List.drop_zero, Prg.eta, Sta.eta, rowsOn_length, getD_drop, Nat.reduceAdd, rd_int, rd_PMem_name, rd_PMem_secret, rd_PMem_n, rd_PLabel_name, rd_PLabel_at_, rd_Ins_kind, rd_Ins_op, rd_Ins_d, rd_Ins_aR, rd_Ins_aN, rd_Ins_bR, rd_Ins_bN, rd_Ins_name, rd_Ins_target, rd_Ent_pc, rd_Ent_val, rd_Ent_addr, rd_Ent_fro, rd_Ent_next, rd_Ent_done, rd_Ent_known, rd_Ent_fault, rd_Place_reg, rd_Place_n, rd_Place_secret, rd_Obs_kind, rd_Obs_at_, rd_Dir_kind, rd_Dir_n, rd_Rn_v, rd_Tok_kind, rd_Tok_text, rd_Tok_n, rd_Tok_at_]
  obtain ⟨h0, h1, h2⟩ := h_inv
  refine br_dec (fun hd => ?_) (fun hd => ?_)
  · have hy : i < (y.length : Int) := by omega
    have e : ((rd x i).kind == (rd y i).kind && (ByteArray.toList (rd x i).text == ByteArray.toList (rd y i).text && ((rd x i).n == (rd y i).n && ((rd x i).at_ == (rd y i).at_ && true)))) = decide (rd x i = rd y i) := by
      rw [Bool.eq_iff_iff]
      simp only [Bool.and_eq_true, beq_iff_eq, decide_eq_true_eq, and_true]
      constructor
      · rintro ⟨a, b, c, d⟩
        have b := ba_toList b
        generalize rd x i = u at a b c d
        generalize rd y i = v at a b c d
        cases u; cases v
        simp only at a b c d
        subst a b c d
        rfl
      · intro h; rw [h]; exact ⟨rfl, rfl, rfl, rfl⟩
    rw [if_pos trivial, e, wrap_small (i + 1) (by omega) (by omega)]
    refine ⟨idx_ok x i 4 rfl h0 hd, okSh_ok _ x i (fun _ => rfl) h0 hd, idx_ok y i 4 rfl h0 hy, okSh_ok _ y i (fun _ => rfl) h0 hy, br_not (br_dec (fun he => ?_) (fun he => ?_))⟩
    · refine ih _ ⟨by omega, by omega, ?_⟩ (by omega)
      rw [take_rn x i h0 hd, take_rn y i h0 hy, h2, he]
    · have : decide (x = y) = false := decide_eq_false fun q => he (by rw [q])
      rw [this]
      exact ret_le (RR.le_refl _)
  · have : decide (x = y) = true := decide_eq_true (by
      rw [List.take_of_length_le (by omega), List.take_of_length_le (by omega)] at h2
      exact h2)
    rw [this]
    exact ret_le (RR.le_refl _)
theorem c_same4_good : c_same4.fe.Good Try.prog := by
  refine FT.good c_same4 ⟨Try.f29, by kernel_rfl, by decide +kernel, by kernel_rfl⟩ (fun ⟨x, y⟩ => by first | rfl | simp [c_same4, rrRef, rTok3, rLine, rR, riib3, ri, rb, rib, Sta.fresh]) fun ⟨x, y⟩ hp => ?_
  refine acalls_le s_same4_sound (fn := Try.f29) (a := a_same4) (nargs := 2) (tbl := [(4, [0, 1, 12, 13])]) (by kernel_rfl) (by kernel_rfl) rfl (m := 400) ?_
  show VC.holds _ _ _ (a_same4.start s_same4 400 [.c (.sl (rowsOn x)), .c (.sl (rowsOn y))])
  rw [t_same4]
  try simp only [asRows_sl, asInt_int, asBool_bool, asStr_str, listOf_rowsOn, List.drop_zero, Prg.eta, Sta.eta, rowsOn_length, getD_drop, Nat.reduceAdd, rd_int, rd_PMem_name, rd_PMem_secret, rd_PMem_n, rd_PLabel_name, rd_PLabel_at_, rd_Ins_kind, rd_Ins_op, rd_Ins_d, rd_Ins_aR, rd_Ins_aN, rd_Ins_bR, rd_Ins_bN, rd_Ins_name, rd_Ins_target, rd_Ent_pc, rd_Ent_val, rd_Ent_addr, rd_Ent_fro, rd_Ent_next, rd_Ent_done, rd_Ent_known, rd_Ent_fault, rd_Place_reg, rd_Place_n, rd_Place_secret, rd_Obs_kind, rd_Obs_at_, rd_Dir_kind, rd_Dir_n, rd_Rn_v, rd_Tok_kind, rd_Tok_text, rd_Tok_n, rd_Tok_at_]
  try simp only [c_same4] at hp
  obtain ⟨hx, hy⟩ := hp
  have e : c_same4.ans (x, y) = rb (decide (x = y)) := rfl
  rw [e]
  refine br_bne (fun h => ?_) (fun h => ?_)
  · have : decide (x = y) = false := decide_eq_false fun q => h (by rw [q])
    rw [this]
    exact ret_le (RR.le_refl _)
  · exact l_sm40 x y hx (by omega) 0 ⟨by omega, by omega, rfl⟩
noncomputable def v_same4 : List Tok × List Tok → Bool := fun x => decide (x.1 = x.2)
noncomputable def sh_same4 : Bool → RR := fun b => rb b
theorem e_same4 (x : List Tok × List Tok) : sh_same4 (v_same4 x) = c_same4.ans x := rfl
end Go.Proofs.Ytmhfhobaicklmaa.Ax
